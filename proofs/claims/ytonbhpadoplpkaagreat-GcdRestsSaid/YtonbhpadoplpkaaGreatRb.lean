import Derived.Test.YtonbhpadoplpkaaGreatRa
import Derived.Test.YtonbhpadoplpkaaGreatProg
import Derived.WalkKit
import Derived.Laws.OwnMore
import Derived.Deep.Draws
import Derived.Deep.OwnRows
import Derived.Deep.LoopGhost
import Derived.Deep.QuietTactic
import Derived.BigQuiet
import Derived.Lib.Hide
import Derived.Maps.AppendAt
import Derived.Laws.Rows
import Derived.OneCell
import Derived.Shelf.Spec.BitsCarry
import Derived.Deep.DeepCutAuto
import Derived.Shelf.Small.Bits
import Derived.Shelf.Strconv.Itoa0
import Derived.Shelf.Bits.Mul64
import Derived.Lib.BitFns
import Derived.Deep.CutBlock
import Derived.BigRegion
import Derived.StillTailTactics
import Derived.Deep.AppendLies
import Derived.Orders
import Derived.Lib.SliceRun
import Derived.Deep.MidRow
import Derived.BigCall
import Derived.Great.BuildSlice
import Derived.Deep.RegionWith
import Derived.WalkMore
import Derived.Laws.EntriesVeiled
import Derived.Laws.CopyOwn
import Derived.Test.YtonbhpadoplpkaaGreatRows
import Derived.ProofKit
import Derived.OpenShut
import Derived.Deep.SlicePairs
import Derived.WideKeyArgs
/- Of: Abs, Abs2, Abs3, Abs4, Abs5, Abs6, Abs7, Abs8, Ty, Gcd1, DivP, Div1, Div2, DivQ. -/
/- An abstract machine: what code does to values, the memory hidden. The words. -/
namespace Go.Proofs.YtonbhpadoplpkaaGreat
open Go.RowKit Go.Deep
/-- Only blocks of G were written, which hold no limbs. -/
structure Mv (G : Nat → Prop) (w w' : World) : Prop where
  ext : ∃ H : Nat → Prop, (∀ g, H g → G g) ∧ Ext H w w'
  fresh : ∀ (base : Nat) (A : Option Addr) (c : Nat), Fresh w base A c → Fresh w' base A c
theorem Mv.size {G : Nat → Prop} {w w' : World} (m : Mv G w w') : w.heap.size ≤ w'.heap.size := by
  obtain ⟨H, _, e⟩ := m.ext
  exact e.size
theorem Mv.of_below {G : Nat → Prop} {w w' : World} (h : Below w.heap.size w w') : Mv G w w' := ⟨⟨_, fun _ h => h.elim, Ext.of_below h⟩, fun _ _ _ hf => hf.stay h⟩
theorem Mv.of_put {G : Nat → Prop} {g : Nat} {w w' : World} (p : Put g w w') (hg : G g) : Mv G w w' := ⟨⟨_, fun i h => by subst h; exact hg, p.ext⟩, p.fresh⟩
theorem Mv.refl (G : Nat → Prop) (w : World) : Mv G w w := Mv.of_below (Below.refl _ _)
/-- What a cell may hold: it stays when only our boxes are written. -/
structure Pred where
  is : (Nat → Prop) → World → Value → Prop
  cell : ∀ {G w v}, is G w v → NoLimb v ∧ v.oneCell' = true
  stay : ∀ {G w w' v}, is G w v → Mv G w w' → is G w' v
  grow : ∀ {G G' w v}, is G w v → (∀ g, G' g → G g ∨ w.heap.size ≤ g) → is G' w v
/-- A slice of limbs. -/
def magP (L : List Nat) : Pred where
  is := fun _ w v => ∃ A l c, v = .slice A l c ∧ l = L.length ∧ l ≤ c ∧ Lim w w.heap.size A L
  cell := by
    rintro G w v ⟨A, l, c, rfl, _, _, _⟩
    exact ⟨noLimb_slice _ _ _, rfl⟩
  stay := by
    rintro G w w' v ⟨A, l, c, rfl, hl, hc, hlim⟩ m
    obtain ⟨H, _, e⟩ := m.ext
    exact ⟨A, l, c, rfl, hl, hc, (hlim.ext (Nat.le_refl _) e).more e.size⟩
  grow := by
    rintro G G' w v h _
    exact h
/-- A cell, as it is known. -/
inductive AC where
  | any
  | b (x : Bool)
  | i (k : IntKind) (n : Int)
  | ptr (j off : Nat)
  | st (p : Pred)
/-- A value. -/
inductive AV where
  | one (c : AC)
  | agg (cs : List AC)
/-- What a slot holds. -/
inductive AR where
  | val (x : AV)
  | tup (l : List AV)
section
variable (G : Nat → Prop) (β : Nat → Nat) (w : World)
def AC.ok : AC → Value → Prop
  | .any, _ => True
  | .b x, v => v = .bool x
  | .i k n, v => v = .int k n
  | .ptr j off, v => v = .pointer (some ⟨β j, off, none⟩)
  | .st p, v => p.is G w v
def oks : List AC → List Value → Prop
  | [], [] => True
  | c :: cs, v :: vs => c.ok G β w v ∧ oks cs vs
  | [], _ :: _ => False
  | _ :: _, [] => False
def AV.ok : AV → Value → Prop
  | .one c, v => c.ok G β w v
  | .agg cs, v => ∃ vs, v = .agg vs.toArray ∧ oks G β w cs vs
def oksV : List AV → List Value → Prop
  | [], [] => True
  | c :: cs, v :: vs => c.ok G β w v ∧ oksV cs vs
  | [], _ :: _ => False
  | _ :: _, [] => False
def AR.ok : AR → Value → Prop
  | .val x, v => x.ok G β w v
  | .tup l, v => ∃ vs, v = .tuple vs.toArray ∧ oksV G β w l vs
def oksR : List AR → List Value → Prop
  | [], [] => True
  | c :: cs, v :: vs => c.ok G β w v ∧ oksR cs vs
  | [], _ :: _ => False
  | _ :: _, [] => False
end
/-- Pointers lead into U alone. -/
def AC.low (U : Nat → Prop) : AC → Prop
  | .ptr j _ => U j
  | _ => True
def AV.low (U : Nat → Prop) : AV → Prop
  | .one c => c.low U
  | .agg cs => ∀ c ∈ cs, c.low U
def AR.low (U : Nat → Prop) : AR → Prop
  | .val x => x.low U
  | .tup l => ∀ x ∈ l, x.low U
def AC.nop : AC → Bool
  | .ptr _ _ => false
  | _ => true
def AV.nop : AV → Bool
  | .one c => c.nop
  | .agg cs => cs.all AC.nop
def AR.nop : AR → Bool
  | .val x => x.nop
  | .tup l => l.all AV.nop
theorem AC.nop_low {c : AC} (h : c.nop = true) (U : Nat → Prop) : c.low U := by cases c <;> first | trivial | cases h
theorem AV.nop_low {c : AV} (h : c.nop = true) (U : Nat → Prop) : c.low U := by
  cases c with
  | one c => exact AC.nop_low h U
  | agg cs => exact fun c hc => AC.nop_low (List.all_eq_true.1 h c hc) U
theorem AR.nop_low {c : AR} (h : c.nop = true) (U : Nat → Prop) : c.low U := by
  cases c with
  | val c => exact AV.nop_low h U
  | tup cs => exact fun c hc => AV.nop_low (List.all_eq_true.1 h c hc) U
section
variable {U U' : Nat → Prop}
theorem AC.low_mono (h : ∀ j, U j → U' j) {c : AC} (hc : c.low U) : c.low U' := by cases c <;> first | trivial | exact h _ hc
theorem AV.low_mono (h : ∀ j, U j → U' j) {c : AV} (hc : c.low U) : c.low U' := by
  cases c with
  | one c => exact AC.low_mono h hc
  | agg cs => exact fun c hx => AC.low_mono h (hc c hx)
theorem AR.low_mono (h : ∀ j, U j → U' j) {c : AR} (hc : c.low U) : c.low U' := by
  cases c with
  | val c => exact AV.low_mono h hc
  | tup cs => exact fun c hx => AV.low_mono h (hc c hx)
end
/-! ### what is known stays -/
section
variable {G G' : Nat → Prop} {β β' : Nat → Nat} {w w' : World} {U : Nat → Prop}
theorem AC.ok_step (hU : ∀ j, U j → β' j = β j) (hG : ∀ g, G' g → G g ∨ w.heap.size ≤ g) (hm : Mv G' w w') {c : AC} {v : Value} (hl : c.low U) (h : c.ok G β w v) : c.ok G' β' w' v := by
  cases c with
  | any => trivial
  | b x => exact h
  | i k n => exact h
  | ptr j off => simp only [AC.ok] at h ⊢; rw [hU j hl]; exact h
  | st p => exact p.stay (p.grow h hG) hm
theorem oks_step (hU : ∀ j, U j → β' j = β j) (hG : ∀ g, G' g → G g ∨ w.heap.size ≤ g) (hm : Mv G' w w') : ∀ {cs : List AC} {vs : List Value}, (∀ c ∈ cs, c.low U) → oks G β w cs vs → oks G' β' w' cs vs
  | [], [], _, _ => trivial
  | c :: cs, v :: vs, hl, h => ⟨AC.ok_step hU hG hm (hl c (by simp)) h.1, oks_step hU hG hm (fun c hc => hl c (by simp [hc])) h.2⟩
  | [], _ :: _, _, h => h.elim
  | _ :: _, [], _, h => h.elim
theorem AV.ok_step (hU : ∀ j, U j → β' j = β j) (hG : ∀ g, G' g → G g ∨ w.heap.size ≤ g) (hm : Mv G' w w') {c : AV} {v : Value} (hl : c.low U) (h : c.ok G β w v) : c.ok G' β' w' v := by
  cases c with
  | one c => exact AC.ok_step hU hG hm hl h
  | agg cs => obtain ⟨vs, e, h⟩ := h; exact ⟨vs, e, oks_step hU hG hm hl h⟩
theorem oksV_step (hU : ∀ j, U j → β' j = β j) (hG : ∀ g, G' g → G g ∨ w.heap.size ≤ g) (hm : Mv G' w w') : ∀ {cs : List AV} {vs : List Value}, (∀ c ∈ cs, c.low U) → oksV G β w cs vs → oksV G' β' w' cs vs
  | [], [], _, _ => trivial
  | c :: cs, v :: vs, hl, h => ⟨AV.ok_step hU hG hm (hl c (by simp)) h.1, oksV_step hU hG hm (fun c hc => hl c (by simp [hc])) h.2⟩
  | [], _ :: _, _, h => h.elim
  | _ :: _, [], _, h => h.elim
theorem AR.ok_step (hU : ∀ j, U j → β' j = β j) (hG : ∀ g, G' g → G g ∨ w.heap.size ≤ g) (hm : Mv G' w w') {c : AR} {v : Value} (hl : c.low U) (h : c.ok G β w v) : c.ok G' β' w' v := by
  cases c with
  | val c => exact AV.ok_step hU hG hm hl h
  | tup cs => obtain ⟨vs, e, h⟩ := h; exact ⟨vs, e, oksV_step hU hG hm hl h⟩
theorem oks_len : ∀ {cs : List AC} {vs : List Value}, oks G β w cs vs → cs.length = vs.length
  | [], [], _ => rfl
  | _ :: _, _ :: _, h => by simp [oks_len h.2]
  | [], _ :: _, h => h.elim
  | _ :: _, [], h => h.elim
theorem oksR_len : ∀ {cs : List AR} {vs : List Value}, oksR G β w cs vs → cs.length = vs.length
  | [], [], _ => rfl
  | _ :: _, _ :: _, h => by simp [oksR_len h.2]
  | [], _ :: _, h => h.elim
  | _ :: _, [], h => h.elim
theorem oks_get : ∀ {cs : List AC} {vs : List Value}, oks G β w cs vs → ∀ (k : Nat) (c : AC), cs[k]? = some c → ∃ v, vs[k]? = some v ∧ c.ok G β w v
  | [], [], _, k, c, hc => by simp at hc
  | _ :: _, v :: _, h, 0, c, hc => by simp at hc; subst hc; exact ⟨v, by simp, h.1⟩
  | _ :: _, _ :: _, h, k + 1, c, hc => by
    obtain ⟨v, h1, h2⟩ := oks_get h.2 k c (by simpa using hc)
    exact ⟨v, by simpa using h1, h2⟩
  | [], _ :: _, h, _, _, _ => h.elim
  | _ :: _, [], h, _, _, _ => h.elim
theorem oksV_get : ∀ {cs : List AV} {vs : List Value}, oksV G β w cs vs → ∀ (k : Nat) (c : AV), cs[k]? = some c → ∃ v, vs[k]? = some v ∧ c.ok G β w v
  | [], [], _, k, c, hc => by simp at hc
  | _ :: _, v :: _, h, 0, c, hc => by simp at hc; subst hc; exact ⟨v, by simp, h.1⟩
  | _ :: _, _ :: _, h, k + 1, c, hc => by
    obtain ⟨v, h1, h2⟩ := oksV_get h.2 k c (by simpa using hc)
    exact ⟨v, by simpa using h1, h2⟩
  | [], _ :: _, h, _, _, _ => h.elim
  | _ :: _, [], h, _, _, _ => h.elim
theorem oks_of_get {cs : List AC} {vs : List Value} (hl : cs.length = vs.length) (h : ∀ (k : Nat) (c : AC) (v : Value), cs[k]? = some c → vs[k]? = some v → c.ok G β w v) : oks G β w cs vs := by
  induction cs generalizing vs with
  | nil => cases vs with
    | nil => trivial
    | cons v vs => simp at hl
  | cons c cs ih => cases vs with
    | nil => simp at hl
    | cons v vs => exact ⟨h 0 c v (by simp) (by simp), ih (by simpa using hl) (fun k c v hc hv => h (k + 1) c v (by simpa using hc) (by simpa using hv))⟩
end
/-! ### parts of lists -/
/-- n cells from off on. -/
def rdO : List AC → Nat → Nat → Option (List AC)
  | _, 0, 0 => some []
  | c :: cs, 0, n + 1 => match rdO cs 0 n with
    | some r => some (c :: r)
    | none => none
  | [], 0, _ + 1 => none
  | _ :: cs, k + 1, n => rdO cs k n
  | [], _ + 1, _ => none
/-- vs is laid over cs from off on. -/
def layO {α : Type} : List α → Nat → List α → Option (List α)
  | cs, 0, [] => some cs
  | _ :: cs, 0, v :: vs => match layO cs 0 vs with
    | some r => some (v :: r)
    | none => none
  | [], 0, _ :: _ => none
  | c :: cs, k + 1, vs => match layO cs k vs with
    | some r => some (c :: r)
    | none => none
  | [], _ + 1, _ => none
theorem rdO_get : ∀ {cs : List AC} {off n : Nat} {r : List AC}, rdO cs off n = some r → r.length = n ∧ off + n ≤ cs.length ∧ ∀ k, k < n → r[k]? = cs[off + k]?
  | cs, 0, 0, r, h => by simp [rdO] at h; subst h; simp
  | c :: cs, 0, n + 1, r, h => by
    simp only [rdO] at h
    cases hr : rdO cs 0 n with
    | none => simp [hr] at h
    | some r' =>
      simp [hr] at h
      subst h
      obtain ⟨h1, h2, h3⟩ := rdO_get hr
      refine ⟨by simp [h1], by simp at h2 ⊢; omega, fun k hk => ?_⟩
      cases k with
      | zero => simp
      | succ k => have := h3 k (by omega); simpa using this
  | [], 0, _ + 1, r, h => by simp [rdO] at h
  | c :: cs, k + 1, n, r, h => by
    simp only [rdO] at h
    obtain ⟨h1, h2, h3⟩ := rdO_get h
    refine ⟨h1, by simp; omega, fun j hj => ?_⟩
    rw [h3 j hj, show k + 1 + j = (k + j) + 1 by omega]
    simp
  | [], _ + 1, _, r, h => by simp [rdO] at h
section
variable {α : Type}
theorem layO_get : ∀ {cs : List α} {off : Nat} {vs r : List α}, layO cs off vs = some r → r.length = cs.length ∧ off + vs.length ≤ cs.length ∧ ∀ k, r[k]? = if off ≤ k ∧ k < off + vs.length then vs[k - off]? else cs[k]?
  | cs, 0, [], r, h => by simp [layO] at h; subst h; simp
  | c :: cs, 0, v :: vs, r, h => by
    simp only [layO] at h
    cases hr : layO cs 0 vs with
    | none => simp [hr] at h
    | some r' =>
      simp [hr] at h
      subst h
      obtain ⟨h1, h2, h3⟩ := layO_get hr
      refine ⟨by simp [h1], by simp at h2 ⊢; omega, fun k => ?_⟩
      cases k with
      | zero => simp
      | succ k => have := h3 k; simpa using this
  | [], 0, _ :: _, r, h => by simp [layO] at h
  | c :: cs, k + 1, vs, r, h => by
    simp only [layO] at h
    cases hr : layO cs k vs with
    | none => simp [hr] at h
    | some r' =>
      simp [hr] at h
      subst h
      obtain ⟨h1, h2, h3⟩ := layO_get hr
      refine ⟨by simp [h1], by simp; omega, fun j => ?_⟩
      cases j with
      | zero => simp
      | succ j =>
        have := h3 j
        simp only [List.getElem?_cons_succ, this]
        by_cases hj : k ≤ j ∧ j < k + vs.length
        · rw [if_pos hj, if_pos (by omega), show j + 1 - (k + 1) = j - k by omega]
        · rw [if_neg hj, if_neg (by omega)]
  | [], _ + 1, _, r, h => by simp [layO] at h
theorem layO_some : ∀ {cs : List α} {off : Nat} {vs : List α}, off + vs.length ≤ cs.length → ∃ r, layO cs off vs = some r
  | cs, 0, [], _ => ⟨cs, by simp [layO]⟩
  | c :: cs, 0, v :: vs, h => by
    obtain ⟨r, hr⟩ := layO_some (cs := cs) (off := 0) (vs := vs) (by simp at h ⊢; omega)
    exact ⟨v :: r, by simp [layO, hr]⟩
  | [], 0, _ :: _, h => by simp at h
  | c :: cs, k + 1, vs, h => by
    obtain ⟨r, hr⟩ := layO_some (cs := cs) (off := k) (vs := vs) (by simp at h ⊢; omega)
    exact ⟨c :: r, by simp [layO, hr]⟩
  | [], _ + 1, _, h => by simp at h
end
theorem oks_lay {G : Nat → Prop} {β : Nat → Nat} {w : World} {cs xs r : List AC} {vs ys : List Value} {off : Nat} (h : oks G β w cs vs) (k : oks G β w xs ys) (hr : layO cs off xs = some r) :
    ∃ us, layO vs off ys = some us ∧ oks G β w r us := by
  obtain ⟨h1, h2, h3⟩ := layO_get hr
  have e1 := oks_len h
  have e2 := oks_len k
  obtain ⟨us, hus⟩ := layO_some (cs := vs) (off := off) (vs := ys) (by omega)
  obtain ⟨g1, g2, g3⟩ := layO_get hus
  refine ⟨us, hus, oks_of_get (by omega) fun j c v hc hv => ?_⟩
  rw [h3] at hc
  rw [g3, ← e2] at hv
  by_cases hj : off ≤ j ∧ j < off + xs.length
  · rw [if_pos hj] at hc hv
    obtain ⟨u, hu, hok⟩ := oks_get k _ _ hc
    rw [hu] at hv
    cases hv
    exact hok
  · rw [if_neg hj] at hc hv
    obtain ⟨u, hu, hok⟩ := oks_get h _ _ hc
    rw [hu] at hv
    cases hv
    exact hok
/-! ### the state -/
structure FSt where
  tm : Nat → Option AR
  bx : Nat → Option (TypeId × List AC)
  us : Nat → Prop
inductive Eff where
  | no
  | rd (j : Nat)
  | al (id : Nat) (t : TypeId) (cs : List AC)
  | wr (j off : Nat) (vs : List AC)
def layD (cs : List AC) (off : Nat) (vs : List AC) : List AC := (layO cs off vs).getD cs
def FSt.next (F : FSt) (d : Option Nat) (v : AR) (e : Eff) : FSt where
  tm := fun t => if d = some t then some v else F.tm t
  bx := fun k => match e with
    | .no => F.bx k
    | .rd _ => F.bx k
    | .al id t cs => if k = id then some (t, cs) else F.bx k
    | .wr j off vs => if k = j then (F.bx k).map (fun p => (p.1, layD p.2 off vs)) else F.bx k
  us := fun k => match e with
    | .al id _ _ => k = id ∨ F.us k
    | _ => F.us k
/-- Our boxes, and what else we may not read as a slice's room. -/
def Gs (G0 : Nat → Prop) (bx : Nat → Option (TypeId × List AC)) (β : Nat → Nat) : Nat → Prop := fun g => G0 g ∨ ∃ j, (bx j).isSome = true ∧ β j = g
structure OkB (n : Nat) (G0 : Nat → Prop) (w0 : World) (F : FSt) (β : Nat → Nat) (a : Act) (w : World) : Prop where
  size : a.tmps.size = n
  defers : a.defers = []
  tms : ∀ t r, F.tm t = some r → r.low F.us ∧ r.ok (Gs G0 F.bx β) β w (a.tmps.getD t undef)
  bxs : ∀ j t cs, F.bx j = some (t, cs) → (∀ c ∈ cs, c.low F.us) ∧ ∃ vs, BoxN w (β j) t vs ∧ (∀ v ∈ vs, v.oneCell' = true) ∧ oks (Gs G0 F.bx β) β w cs vs
  inj : ∀ j j', (F.bx j).isSome = true → (F.bx j').isSome = true → β j = β j' → j = j'
  new : ∀ j, (F.bx j).isSome = true → w0.heap.size ≤ β j ∧ F.us j
  since : Since w0 w
  low : ∀ g, G0 g → g < w0.heap.size
def constAC : Value → AC
  | .bool x => .b x
  | .int k n => .i k n
  | .slice none 0 0 => .st (magP [])
  | _ => .any
def constAR : Value → Option AR
  | .tuple _ => none
  | .agg cs => some (.val (.agg (cs.toList.map constAC)))
  | v => some (.val (.one (constAC v)))
def FSt.ev (F : FSt) : Operand → Option AR
  | .tmp t => F.tm t
  | .const v => constAR v
  | _ => none
theorem magP_nil (G : Nat → Prop) (w : World) : (magP []).is G w (.slice none 0 0) := ⟨none, 0, 0, rfl, rfl, Nat.le_refl _, Lim.nil _ _ _⟩
theorem constAC_ok (G : Nat → Prop) (β : Nat → Nat) (w : World) (v : Value) : (constAC v).ok G β w v := by
  unfold constAC
  split
  · rfl
  · rfl
  · exact magP_nil G w
  · trivial
theorem constAC_low (U : Nat → Prop) (v : Value) : (constAC v).low U := by
  unfold constAC
  split <;> trivial
theorem oks_const (G : Nat → Prop) (β : Nat → Nat) (w : World) : ∀ cs : List Value, oks G β w (cs.map constAC) cs
  | [] => trivial
  | c :: cs => ⟨constAC_ok G β w c, oks_const G β w cs⟩
theorem constAR_ok {G : Nat → Prop} {β : Nat → Nat} {w : World} {U : Nat → Prop} {v : Value} {r : AR} (h : constAR v = some r) : r.low U ∧ r.ok G β w v := by
  unfold constAR at h
  split at h
  · cases h
  · cases h
    refine ⟨fun c hc => ?_, ⟨_, by simp, oks_const G β w _⟩⟩
    obtain ⟨v, _, rfl⟩ := List.mem_map.1 hc
    exact constAC_low U v
  · cases h
    exact ⟨constAC_low U v, constAC_ok G β w v⟩
section
variable {n : Nat} {G0 : Nat → Prop} {w0 : World} {F : FSt} {β : Nat → Nat} {a : Act} {w : World}
theorem OkB.ev (h : OkB n G0 w0 F β a w) {x : Operand} {r : AR} (hx : F.ev x = some r) : r.low F.us ∧ r.ok (Gs G0 F.bx β) β w (a.eval x) := by
  cases x with
  | tmp t => exact h.tms _ _ hx
  | const v => exact constAR_ok hx
  | global g => cases hx
  | func f => cases hx
theorem put_get {a : Act} {d : Option Nat} {v : Value} {t : Nat} (hd : ∀ t, d = some t → t < a.tmps.size) : (a.put d v).tmps.getD t undef = if d = some t then v else a.tmps.getD t undef := by
  cases d with
  | none => simp [Act.put]
  | some k =>
    have hk := hd k rfl
    simp only [Act.put, Array.getD_eq_getD_getElem?, Array.getElem?_setIfInBounds]
    by_cases e : k = t
    · subst e; simp [hk]
    · simp [e]
theorem put_size (a : Act) (d : Option Nat) (v : Value) : (a.put d v).tmps.size = a.tmps.size := by cases d <;> simp [Act.put]
theorem put_defers (a : Act) (d : Option Nat) (v : Value) : (a.put d v).defers = a.defers := by cases d <;> rfl
/-- One step: what is new is told; all else stays. -/
theorem OkB.step (h : OkB n G0 w0 F β a w) {d : Option Nat} {v : AR} {e : Eff} {β' : Nat → Nat} {w' : World} {val : Value} (hd : ∀ t, d = some t → t < n)
    (hU : ∀ j, F.us j → β' j = β j) (hus : ∀ j, F.us j → (F.next d v e).us j)
    (hG : ∀ g, Gs G0 (F.next d v e).bx β' g → Gs G0 F.bx β g ∨ w.heap.size ≤ g)
    (hm : Mv (Gs G0 (F.next d v e).bx β') w w')
    (hv : v.ok (Gs G0 (F.next d v e).bx β') β' w' val) (hl : v.low (F.next d v e).us)
    (hb : ∀ j t cs, (F.next d v e).bx j = some (t, cs) → (∀ c ∈ cs, c.low (F.next d v e).us) ∧ ∃ vs, BoxN w' (β' j) t vs ∧ (∀ v ∈ vs, v.oneCell' = true) ∧ oks (Gs G0 (F.next d v e).bx β') β' w' cs vs)
    (hi : ∀ j j', ((F.next d v e).bx j).isSome = true → ((F.next d v e).bx j').isSome = true → β' j = β' j' → j = j')
    (hn : ∀ j, ((F.next d v e).bx j).isSome = true → w0.heap.size ≤ β' j ∧ (F.next d v e).us j)
    (hs : Since w0 w') : OkB n G0 w0 (F.next d v e) β' (a.put d val) w' := by
  refine ⟨by rw [put_size]; exact h.size, by rw [put_defers]; exact h.defers, fun t r ht => ?_, hb, hi, hn, hs, h.low⟩
  rw [put_get (by rw [h.size]; exact hd)]
  simp only [FSt.next] at ht
  by_cases e1 : d = some t
  · rw [if_pos e1] at ht ⊢
    cases ht
    exact ⟨hl, hv⟩
  · rw [if_neg e1] at ht ⊢
    obtain ⟨h1, h2⟩ := h.tms t r ht
    exact ⟨AR.low_mono hus h1, AR.ok_step hU hG hm h1 h2⟩
/-- Nothing was written. -/
theorem OkB.still (h : OkB n G0 w0 F β a w) {w' : World} (hb : Below w.heap.size w w') : OkB n G0 w0 F β a w' := by
  refine ⟨h.size, h.defers, fun t r ht => ?_, fun j t cs hj => ?_, h.inj, h.new, h.since.stay hb, h.low⟩
  · obtain ⟨h1, h2⟩ := h.tms t r ht
    exact ⟨h1, AR.ok_step (U := F.us) (fun _ _ => rfl) (fun _ h => .inl h) (Mv.of_below hb) h1 h2⟩
  · obtain ⟨h1, vs, h2, h3, h4⟩ := h.bxs j t cs hj
    exact ⟨h1, vs, h2.stay hb, h3, oks_step (U := F.us) (fun _ _ => rfl) (fun _ h => .inl h) (Mv.of_below hb) h1 h4⟩
theorem OkB.quiet (h : OkB n G0 w0 F β a w) {d : Option Nat} {v : AR} {w' : World} {val : Value} (hd : ∀ t, d = some t → t < n) (hb : Below w.heap.size w w')
    (hv : v.ok (Gs G0 F.bx β) β w' val) (hl : v.low F.us) : OkB n G0 w0 (F.next d v .no) β (a.put d val) w' := by
  refine h.step hd (fun _ _ => rfl) (fun _ h => h) (fun _ h => .inl h) (Mv.of_below hb) hv hl (fun j t cs hj => ?_) h.inj h.new (h.since.stay hb)
  obtain ⟨h1, vs, h2, h3, h4⟩ := h.bxs j t cs hj
  exact ⟨h1, vs, h2.stay hb, h3, oks_step (U := F.us) (fun _ _ => rfl) (fun _ h => .inl h) (Mv.of_below hb) h1 h4⟩
/-- A box was read. -/
theorem OkB.rd (h : OkB n G0 w0 F β a w) {d : Option Nat} {v : AR} {val : Value} (j : Nat) (hd : ∀ t, d = some t → t < n)
    (hv : v.ok (Gs G0 F.bx β) β w val) (hl : v.low F.us) : OkB n G0 w0 (F.next d v (.rd j)) β (a.put d val) w :=
  h.quiet hd (Below.refl _ _) hv hl
/-- A box was made. -/
theorem OkB.alloc (h : OkB n G0 w0 F β a w) {d : Option Nat} {id : Nat} {ty : TypeId} {cs : List AC} {vs : List Value} (hd : ∀ t, d = some t → t < n) (hid : ¬ F.us id)
    (hc : ∀ c ∈ cs, c.low F.us) (hvs : ∀ v ∈ vs, NoLimb v ∧ v.oneCell' = true) (ho : oks (Gs G0 F.bx β) β w cs vs) :
    ∃ β', OkB n G0 w0 (F.next d (.val (.one (.ptr id 0))) (.al id ty cs)) β' (a.put d (.pointer (some ⟨w.heap.size, 0, none⟩))) (w.alloc (.cells vs.toArray ty)) := by
  have hbel : Below w.heap.size w (w.alloc (.cells vs.toArray ty)) := (Below.refl _ _).alloc (Nat.le_refl _) _
  refine ⟨fun j => if j = id then w.heap.size else β j, ?_⟩
  have hne : ∀ j, F.us j → j ≠ id := fun j hj e => hid (e ▸ hj)
  have hU : ∀ j, F.us j → (if j = id then w.heap.size else β j) = β j := fun j hj => if_neg (hne j hj)
  have hG : ∀ g, Gs G0 (F.next d (.val (.one (.ptr id 0))) (.al id ty cs)).bx (fun j => if j = id then w.heap.size else β j) g → Gs G0 F.bx β g ∨ w.heap.size ≤ g := by
    rintro g (hg | ⟨j, hj, rfl⟩)
    · exact .inl (.inl hg)
    · by_cases e : j = id
      · right; simp [e]
      · left
        simp only [FSt.next, if_neg e] at hj
        exact .inr ⟨j, hj, by simp [e]⟩
  refine h.step hd hU (fun j hj => .inr hj) hG (Mv.of_below hbel) (by simp [AR.ok, AV.ok, AC.ok]) (.inl rfl) (fun j t cs' hj => ?_) (fun j j' hj hj' e => ?_) (fun j hj => ?_) (h.since.stay hbel)
  · simp only [FSt.next] at hj
    by_cases e : j = id
    · subst e
      rw [if_pos rfl] at hj
      cases hj
      refine ⟨fun c hx => AC.low_mono (fun _ h => .inr h) (hc c hx), vs, ?_, fun v hv => (hvs v hv).2, oks_step hU hG (Mv.of_below hbel) hc ho⟩
      simp only [if_pos]
      exact ⟨heap_alloc_new w _, fun v hv => (hvs v hv).1⟩
    · rw [if_neg e] at hj
      obtain ⟨h1, vs', h2, h3, h4⟩ := h.bxs j t cs' hj
      refine ⟨fun c hx => AC.low_mono (fun _ h => .inr h) (h1 c hx), vs', ?_, h3, oks_step hU hG (Mv.of_below hbel) h1 h4⟩
      simp only [if_neg e]
      exact h2.stay hbel
  · simp only [FSt.next] at hj hj'
    by_cases e1 : j = id <;> by_cases e2 : j' = id
    · exact e1.trans e2.symm
    · simp only [if_pos e1, if_neg e2] at e hj'
      obtain ⟨p, hp⟩ := Option.isSome_iff_exists.1 hj'
      obtain ⟨_, vs', h2, _⟩ := h.bxs j' p.1 p.2 hp
      have := h2.lt
      omega
    · simp only [if_neg e1, if_pos e2] at e hj
      obtain ⟨p, hp⟩ := Option.isSome_iff_exists.1 hj
      obtain ⟨_, vs', h2, _⟩ := h.bxs j p.1 p.2 hp
      have := h2.lt
      omega
    · simp only [if_neg e1, if_neg e2] at e hj hj'
      exact h.inj j j' hj hj' e
  · simp only [FSt.next] at hj ⊢
    by_cases e : j = id
    · rw [if_pos e]
      exact ⟨h.since.size, .inl e⟩
    · rw [if_neg e] at hj ⊢
      exact ⟨(h.new j hj).1, .inr (h.new j hj).2⟩
theorem BoxN.cells {w : World} {g : Nat} {t : TypeId} : ∀ {cs vs us : List Value} {o : Nat}, BoxN w g t cs → (∀ v ∈ vs, NoLimb v) → layO cs o vs = some us → BoxN (w.setCells g o vs) g t us ∧ Put g w (w.setCells g o vs) := by
  intro cs vs
  induction vs generalizing w cs with
  | nil =>
    intro us o hb _ hl
    obtain ⟨h1, h2, h3⟩ := layO_get hl
    obtain rfl : us = cs := List.ext_getElem? fun k => by rw [h3, if_neg (by simp)]
    exact ⟨hb, Put.refl hb⟩
  | cons v vs ih =>
    intro us o hb hn hl
    obtain ⟨h1, h2, h3⟩ := layO_get hl
    obtain ⟨hb1, p1⟩ := hb.set o v (hn v (by simp))
    obtain ⟨us', hl'⟩ := layO_some (cs := cs.set o v) (off := o + 1) (vs := vs) (by simp at h2 ⊢; omega)
    obtain ⟨g1, g2, g3⟩ := layO_get hl'
    obtain rfl : us = us' := List.ext_getElem? fun k => by
      rw [h3, g3]
      simp only [List.length_cons]
      by_cases e : k = o
      · subst e
        rw [if_pos (by omega), if_neg (by omega), List.getElem?_set_self (by simp at h2; omega)]
        simp
      · rw [List.getElem?_set_ne (Ne.symm e)]
        by_cases hk : o + 1 ≤ k ∧ k < o + 1 + vs.length
        · rw [if_pos (by omega), if_pos hk, show k - o = (k - (o + 1)) + 1 by omega]; simp
        · rw [if_neg (by omega), if_neg hk]
    obtain ⟨hb2, p2⟩ := ih hb1 (fun u hu => hn u (by simp [hu])) hl'
    exact ⟨hb2, p1.trans p2⟩
def AC.keepable : AC → Bool
  | .any => false
  | .i .u64 _ => false
  | _ => true
theorem AC.keep {G : Nat → Prop} {β : Nat → Nat} {w : World} {c : AC} {v : Value} (hk : c.keepable = true) (h : c.ok G β w v) : NoLimb v ∧ v.oneCell' = true := by
  cases c with
  | any => cases hk
  | b x => rw [show v = .bool x from h]; exact ⟨noLimb_bool _, rfl⟩
  | i k m =>
    rw [show v = .int k m from h]
    refine ⟨fun j e => ?_, rfl⟩
    injection e with e1 _
    subst e1
    cases hk
  | ptr j off => rw [show v = .pointer (some ⟨β j, off, none⟩) from h]; exact ⟨fun _ => by simp, rfl⟩
  | st p => exact p.cell h
theorem oks_keep {G : Nat → Prop} {β : Nat → Nat} {w : World} {cs : List AC} {vs : List Value} (hk : cs.all AC.keepable = true) (h : oks G β w cs vs) : ∀ v ∈ vs, NoLimb v ∧ v.oneCell' = true := by
  intro v hv
  obtain ⟨k, hk2⟩ := List.getElem?_of_mem hv
  have hl := oks_len h
  obtain ⟨c, hc⟩ : ∃ c, cs[k]? = some c := ⟨cs[k]'(by have := (List.getElem?_eq_some_iff.1 hk2).1; omega), List.getElem?_eq_getElem _⟩
  obtain ⟨u, hu, hok⟩ := oks_get h k c hc
  rw [hk2] at hu
  cases hu
  exact AC.keep (List.all_eq_true.1 hk c (List.mem_of_getElem? hc)) hok
/-- A box was written. -/
theorem OkB.store (h : OkB n G0 w0 F β a w) {d : Option Nat} {j off : Nat} {ty : TypeId} {bs cs r : List AC} {vs : List Value} {val : Value} (hd : ∀ t, d = some t → t < n)
    (hj : F.bx j = some (ty, bs)) (hr : layO bs off cs = some r) (hk : cs.all AC.keepable = true) (hl : ∀ c ∈ cs, c.low F.us) (hv : oks (Gs G0 F.bx β) β w cs vs) :
    OkB n G0 w0 (F.next d (.val (.one .any)) (.wr j off cs)) β (a.put d val) (w.setCells (β j) off vs) := by
  obtain ⟨hl0, us, hb, h1, hok⟩ := h.bxs j ty bs hj
  obtain ⟨us', hus', hok'⟩ := oks_lay hok hv hr
  have hkeep := oks_keep hk hv
  obtain ⟨hb', p⟩ := hb.cells (fun v hv => (hkeep v hv).1) hus'
  have hdom : ∀ k, ((F.next d (.val (.one .any)) (.wr j off cs)).bx k).isSome = (F.bx k).isSome := by
    intro k
    simp only [FSt.next]
    split <;> simp
  have hGe : Gs G0 (F.next d (.val (.one .any)) (.wr j off cs)).bx β = Gs G0 F.bx β := by
    funext g
    unfold Gs
    simp only [hdom]
  have hGj : Gs G0 F.bx β (β j) := .inr ⟨j, by rw [hj]; rfl, rfl⟩
  have hm : Mv (Gs G0 F.bx β) w (w.setCells (β j) off vs) := Mv.of_put p hGj
  refine h.step hd (fun _ _ => rfl) (fun _ h => h) (fun g hg => .inl (by rw [hGe] at hg; exact hg)) (by rw [hGe]; exact hm) trivial trivial (fun k t cs' hk' => ?_) (fun k k' hk1 hk2 => h.inj k k' (by rw [hdom] at hk1; exact hk1) (by rw [hdom] at hk2; exact hk2)) (fun k hk1 => h.new k (by rw [hdom] at hk1; exact hk1)) (h.since.put p (h.new j (by rw [hj]; rfl)).1)
  rw [hGe]
  simp only [FSt.next] at hk' ⊢
  by_cases e : k = j
  · subst e
    rw [if_pos rfl, hj] at hk'
    simp only [Option.map_some, layD, hr, Option.getD_some] at hk'
    cases hk'
    obtain ⟨q1, q2, q3⟩ := layO_get hr
    refine ⟨fun c hc => ?_, us', hb', fun v hv => ?_, oks_step (U := F.us) (fun _ _ => rfl) (fun _ h => .inl h) hm (fun c hc => ?_) hok'⟩
    · obtain ⟨m, hm2⟩ := List.getElem?_of_mem hc
      rw [q3] at hm2
      split at hm2
      · exact hl c (List.mem_of_getElem? hm2)
      · exact hl0 c (List.mem_of_getElem? hm2)
    · obtain ⟨m, hm2⟩ := List.getElem?_of_mem hv
      rw [(layO_get hus').2.2] at hm2
      split at hm2
      · exact (hkeep v (List.mem_of_getElem? hm2)).2
      · exact h1 v (List.mem_of_getElem? hm2)
    · obtain ⟨m, hm2⟩ := List.getElem?_of_mem hc
      rw [q3] at hm2
      split at hm2
      · exact hl c (List.mem_of_getElem? hm2)
      · exact hl0 c (List.mem_of_getElem? hm2)
  · rw [if_neg e] at hk'
    obtain ⟨g1, vs', g2, g3, g4⟩ := h.bxs k t cs' hk'
    exact ⟨g1, vs', g2.put p (fun e2 => e (h.inj k j (by rw [hk']; rfl) (by rw [hj]; rfl) e2)), g3, oks_step (U := F.us) (fun _ _ => rfl) (fun _ h => .inl h) hm g1 g4⟩
end
end Go.Proofs.YtonbhpadoplpkaaGreat
/- An abstract machine: the operations, and code. -/
namespace Go.Proofs.YtonbhpadoplpkaaGreat
open Go.RowKit Go.Deep
theorem enters_of {P : Program} {f : FuncId} {fn : Func} {c : Code} (hf : P.funcs[f]? = some fn) (hname : (fn.name == "runtime.NumGoroutine") = false) (hb : fn.body = some c) (args : Array Value) (w : World) :
    (callFunc f args).run P w = .ok (.enter f args) w := by
  have h1 : fn.name ≠ "runtime.NumGoroutine" := by simpa using hname
  simp [callFunc, hf, h1, hb]
def mkVal (row : Bool) (vs : List Value) : Value := if row then .agg vs.toArray else vs.headD undef
def mkAV : Bool → List AC → AV
  | true, cs => .agg cs
  | false, [c] => .one c
  | false, _ => .one .any
/-- What is known of a type: how many cells, a row or one. -/
structure TyI (P : Program) (ty : TypeId) (n : Nat) (row : Bool) : Prop where
  loadA : ∀ (w : World) (a : Addr) (vs : List Value), (∀ j v, vs[j]? = some v → w.cell? (a.add j) = some v) → vs.length = n → (loadVar ty a).run P w = .ok (mkVal row vs) w
  load : ∀ (w : World) (b o : Nat) (vs : List Value), w.rangeAt b o vs → vs.length = n → (loadVar ty ⟨b, o, none⟩).run P w = .ok (mkVal row vs) w
  store : ∀ (w : World) (b o : Nat) (vs : List Value), w.there b o n → vs.length = n → (∀ v ∈ vs, v.oneCell' = true) → (storeVar ty ⟨b, o, none⟩ (mkVal row vs)).run P w = .ok () (w.setCells b o vs)
  one : row = false → n = 1
/-- A type's value at first. -/
def TyZ (P : Program) (ty : TypeId) (zs : List AC) : Prop :=
  ∃ (row : Bool) (vs : List Value), (∀ w, (zeroValue ty).run P w = .ok (mkVal row vs) w) ∧ (row = false → vs.length = 1) ∧ (∀ v ∈ vs, NoLimb v ∧ v.oneCell' = true) ∧ (∀ G β w, oks G β w zs vs) ∧ ∀ c ∈ zs, c.nop = true
section
variable {P : Program}
theorem tyI_row {ty : TypeId} {n : Nat} {d : TypeDesc} (hu : P.underlying ty = some d) (hd : d.isRow = true) (hi : (P.info? ty).map (·.size) = some n) : TyI P ty n true where
  loadA := fun w a vs hr hl => by
    subst hl
    have hl := run_loadCells_list (P := P) w a vs hr
    cases hq : P.info? ty with
    | none => simp [hq] at hi
    | some i =>
      have hs : i.size = vs.length := by simpa [hq] using hi
      have hagg : (isAgg ty).run P w = .ok true w := by
        unfold isAgg
        rw [Sem.run_bind, run_underlying hu w]
        cases d <;> simp_all
      simp [loadVar, Sem.run_bind, hagg, sizeOf, typeInfo, hq, hs, hl, mkVal]
  load := fun w b o vs hr hl => by
    subst hl
    exact run_loadVar_mid w b o ty vs d hr hu hd hi
  store := fun w b o vs ht hl h1 => by
    subst hl
    exact run_storeVar_mid w b o ty vs.toArray (by simpa using ht) (by simpa using hi) (all_oneCell_toArray h1)
  one := fun h => by cases h
theorem oneCell_cells {v : Value} (h : v.oneCell' = true) : v.cells = #[v] := by cases v <;> first | rfl | (simp [Value.oneCell'] at h)
theorem tyI_one {ty : TypeId} {d : TypeDesc} (hu : P.underlying ty = some d) (hd : d.isRow = false) (hi : (P.info? ty).map (·.size) = some 1) : TyI P ty 1 false where
  loadA := fun w a vs hr hl => by
    obtain ⟨v, rfl⟩ : ∃ v, vs = [v] := List.length_eq_one_iff.1 hl
    have hc := hr 0 v (by simp)
    have hagg : (isAgg ty).run P w = .ok false w := by
      unfold isAgg
      rw [Sem.run_bind, run_underlying hu w]
      cases d <;> first | (simp [TypeDesc.isRow] at hd; done) | simp
    have hz : a.add 0 = a := by unfold Addr.add; rw [if_pos rfl]
    rw [hz] at hc
    have hl : (Go.load a).run P w = .ok v w := by
      rw [run_load]
      simp [hc]
    have hl2 : (loadVar ty a).run P w = (Go.load a).run P w := by
      unfold loadVar
      rw [Sem.run_bind, hagg]
      rfl
    rw [hl2, hl]
    rfl
  load := fun w b o vs hr hl => by
    obtain ⟨v, rfl⟩ : ∃ v, vs = [v] := List.length_eq_one_iff.1 hl
    have hc := hr 0 v (by simp)
    have hagg : (isAgg ty).run P w = .ok false w := by
      unfold isAgg
      rw [Sem.run_bind, run_underlying hu w]
      cases d <;> first | (simp [TypeDesc.isRow] at hd; done) | simp
    have hl : (Go.load ⟨b, o, none⟩).run P w = .ok v w := by
      rw [run_load]
      simp only [Nat.add_zero] at hc
      simp [hc]
    have hl2 : (loadVar ty ⟨b, o, none⟩).run P w = (Go.load ⟨b, o, none⟩).run P w := by
      unfold loadVar
      rw [Sem.run_bind, hagg]
      rfl
    rw [hl2, hl]
    rfl
  store := fun w b o vs ht hl h1 => by
    obtain ⟨v, rfl⟩ : ∃ v, vs = [v] := List.length_eq_one_iff.1 hl
    have hv := oneCell_cells (h1 v (by simp))
    have := run_storeCells_cells (P := P) b o [v] 0 w (fun j hj => by simpa using (ht j (by simpa using hj)).1) (fun j hj => by simpa using (ht j (by simpa using hj)).2) h1
    cases hq : P.info? ty with
    | none => simp [hq] at hi
    | some i =>
      have hs : i.size = 1 := by simpa [hq] using hi
      simp only [Nat.add_zero] at this
      simp [storeVar, sizeOf, typeInfo, hq, hv, hs, mkVal, this]
  one := fun _ => rfl
theorem tyZ_of {ty : TypeId} {i : TypeInfo} {z : Value} {zs : List AC} (row : Bool) (vs : List Value) (hi : P.info? ty = some i) (hz : i.zero = some z) (he : z = mkVal row vs) (h1 : row = false → vs.length = 1)
    (h2 : ∀ v ∈ vs, NoLimb v ∧ v.oneCell' = true) (h3 : ∀ G β w, oks G β w zs vs) (h4 : ∀ c ∈ zs, c.nop = true) : TyZ P ty zs :=
  ⟨row, vs, fun w => by simp [zeroValue, typeInfo, hi, hz, he], h1, h2, h3, h4⟩
/-- An operation that reads values alone, and may lay new memory. -/
def Quiet (P : Program) (o : Oper) (ev : Operand → Option AR) (v : AR) : Prop :=
  ∀ (G : Nat → Prop) (β : Nat → Nat) (w : World) (U : Nat → Prop) (ρ : Operand → Value), (∀ g, G g → g < w.heap.size) →
    (∀ x r, x ∈ o.op.operands.toList → ev x = some r → r.low U ∧ r.ok G β w (ρ x)) → ∃ val w', (execOp ρ o).run P w = .ok (.value val) w' ∧ Below w.heap.size w w' ∧ v.ok G β w' val ∧ v.low U
/-- A contract: from values to a value; nothing that was there is written. -/
structure Ct (P : Program) (f : FuncId) (args : List AR) (res : AR) : Prop where
  enters : ∀ (vals : Array Value) (w : World), (callFunc f vals).run P w = .ok (.enter f vals) w
  nop : res.nop = true
  calls : ∀ (G : Nat → Prop) (β : Nat → Nat) (w : World) (vals : List Value), (∀ g, G g → g < w.heap.size) → oksR G β w args vals →
    Calls P f vals.toArray w fun e w' => ∃ v, e = .returned v ∧ res.ok G β w' v ∧ Below w.heap.size w w'
def evs (ev : Operand → Option AR) : List Operand → Option (List AR)
  | [] => some []
  | x :: xs => match ev x with
    | some r => match evs ev xs with
      | some rs => some (r :: rs)
      | none => none
    | none => none
theorem evs_cons {ev : Operand → Option AR} {x : Operand} {xs : List Operand} {r : AR} {rs : List AR} (h1 : ev x = some r) (h2 : evs ev xs = some rs) : evs ev (x :: xs) = some (r :: rs) := by simp [evs, h1, h2]
inductive OpOk (P : Program) (F : FSt) (o : Oper) : AR → Eff → Prop
  | quiet (v : AR) (h : Quiet P o F.ev v) : OpOk P F o v .no
  | load (ty : TypeId) (x : Operand) (j off n : Nat) (row : Bool) (t : TypeId) (bs cs : List AC) (ho : o.op = .load ty x) (hx : F.ev x = some (.val (.one (.ptr j off)))) (hb : F.bx j = some (t, bs))
      (hr : rdO bs off n = some cs) (hty : TyI P ty n row) : OpOk P F o (.val (mkAV row cs)) (.rd j)
  | alloc (ty : TypeId) (id : Nat) (zs : List AC) (ho : o.op = .alloc ty) (hz : TyZ P ty zs) (hid : ¬ F.us id) : OpOk P F o (.val (.one (.ptr id 0))) (.al id ty zs)
  | box (ty : TypeId) (x : Operand) (id : Nat) (row : Bool) (cs : List AC) (ho : o.op = .box ty x) (hx : F.ev x = some (.val (mkAV row cs))) (hone : row = false → cs.length = 1) (hk : cs.all AC.keepable = true) (hid : ¬ F.us id) : OpOk P F o (.val (.one (.ptr id 0))) (.al id ty cs)
  | store (ty : TypeId) (x y : Operand) (j off n : Nat) (row : Bool) (t : TypeId) (bs cs r : List AC) (ho : o.op = .store ty x y) (hx : F.ev x = some (.val (.one (.ptr j off)))) (hb : F.bx j = some (t, bs))
      (hy : F.ev y = some (.val (mkAV row cs))) (hn : cs.length = n) (hr : layO bs off cs = some r) (hk : cs.all AC.keepable = true) (hty : TyI P ty n row) : OpOk P F o (.val (.one .any)) (.wr j off cs)
  | call (f : FuncId) (xs : Array Operand) (ats : Array TypeId) (ars : List AR) (res : AR) (ho : o.op = .call { callee := .value (.func f), args := xs, argTypes := ats }) (ha : evs F.ev xs.toList = some ars) (hc : Ct P f ars res) : OpOk P F o res .no
theorem oksR_evs {n : Nat} {G0 : Nat → Prop} {w0 : World} {F : FSt} {β : Nat → Nat} {a : Act} {w : World} (h : OkB n G0 w0 F β a w) : ∀ {xs : List Operand} {ars : List AR}, evs F.ev xs = some ars → oksR (Gs G0 F.bx β) β w ars (xs.map a.eval)
  | [], ars, e => by simp [evs] at e; subst e; trivial
  | x :: xs, ars, e => by
    simp only [evs] at e
    cases h1 : F.ev x with
    | none => simp [h1] at e
    | some r =>
      cases h2 : evs F.ev xs with
      | none => simp [h1, h2] at e
      | some rs =>
        simp [h1, h2] at e
        subst e
        exact ⟨(h.ev h1).2, oksR_evs h h2⟩
theorem mkAV_ok {G : Nat → Prop} {β : Nat → Nat} {w : World} {row : Bool} {cs : List AC} {vs : List Value} (h : oks G β w cs vs) (h1 : row = false → vs.length = 1) : (mkAV row cs).ok G β w (mkVal row vs) := by
  cases row with
  | true => exact ⟨vs, rfl, h⟩
  | false =>
    obtain ⟨v, rfl⟩ : ∃ v, vs = [v] := List.length_eq_one_iff.1 (h1 rfl)
    have hl := oks_len h
    obtain ⟨c, rfl⟩ : ∃ c, cs = [c] := List.length_eq_one_iff.1 hl
    exact h.1
theorem mkAV_low {U : Nat → Prop} {row : Bool} {cs : List AC} (h : ∀ c ∈ cs, c.low U) : (mkAV row cs).low U := by
  cases row with
  | true => exact h
  | false =>
    rcases cs with _ | ⟨c, _ | ⟨d, cs⟩⟩
    · trivial
    · exact h c (by simp)
    · trivial
theorem low_mkAV {U : Nat → Prop} {row : Bool} {cs : List AC} (hn : row = false → cs.length = 1) (h : (mkAV row cs).low U) : ∀ c ∈ cs, c.low U := by
  cases row with
  | true => exact h
  | false =>
    obtain ⟨c, rfl⟩ : ∃ c, cs = [c] := List.length_eq_one_iff.1 (hn rfl)
    intro d hd
    simp at hd
    subst hd
    exact h
theorem mkAV_vals {G : Nat → Prop} {β : Nat → Nat} {w : World} {row : Bool} {cs : List AC} {v : Value} (hn : row = false → cs.length = 1) (h : (mkAV row cs).ok G β w v) : ∃ vs, v = mkVal row vs ∧ oks G β w cs vs := by
  cases row with
  | true => exact h
  | false =>
    obtain ⟨c, rfl⟩ : ∃ c, cs = [c] := List.length_eq_one_iff.1 (hn rfl)
    exact ⟨[v], rfl, h, trivial⟩
theorem Gs_lt {n : Nat} {G0 : Nat → Prop} {w0 : World} {F : FSt} {β : Nat → Nat} {a : Act} {w : World} (h : OkB n G0 w0 F β a w) : ∀ g, Gs G0 F.bx β g → g < w.heap.size := by
  rintro g (hg | ⟨j, hj, rfl⟩)
  · exact Nat.lt_of_lt_of_le (h.low g hg) h.since.size
  · obtain ⟨p, hp⟩ := Option.isSome_iff_exists.1 hj
    obtain ⟨_, vs, h2, _⟩ := h.bxs j p.1 p.2 hp
    exact h2.lt
/-- **One operation.** -/
theorem OkB.op {n : Nat} {G0 : Nat → Prop} {w0 : World} {F : FSt} {β : Nat → Nat} {a : Act} {w : World} (h : OkB n G0 w0 F β a w) {o : Oper} {v : AR} {e : Eff} (hd : ∀ d, o.dst = some d → d < n)
    (hop : OpOk P F o v e) {K : Act → World → Prop} {Q : Exit → Act → World → Prop} (hK : ∀ β' a' w', OkB n G0 w0 (F.next o.dst v e) β' a' w' → K a' w') : o.wp P a w K Q := by
  cases hop with
  | quiet v hq =>
    obtain ⟨val, w', h1, hb, h2, h3⟩ := hq (Gs G0 F.bx β) β w F.us a.eval (Gs_lt h) (fun x r _ hx => h.ev hx)
    unfold Oper.wp
    rw [h1]
    exact hK _ _ _ (h.quiet hd hb h2 h3)
  | load ty x j off m row t bs cs ho hx hb hr hty =>
    have hx' := (h.ev hx).2
    simp only [AR.ok, AV.ok, AC.ok] at hx'
    obtain ⟨hlow, vs, hbox, h1, hok⟩ := h.bxs j t bs hb
    obtain ⟨r1, r2, r3⟩ := rdO_get hr
    have hlen := oks_len hok
    have hys : oks (Gs G0 F.bx β) β w cs ((vs.drop off).take m) := by
      refine oks_of_get (by simp; omega) fun k c v hc hv => ?_
      have hk : k < m := by have := (List.getElem?_eq_some_iff.1 hc).1; omega
      rw [r3 k hk] at hc
      obtain ⟨u, hu, hcu⟩ := oks_get hok _ _ hc
      rw [List.getElem?_take, if_pos hk, List.getElem?_drop, hu] at hv
      cases hv
      exact hcu
    have hrange : w.rangeAt (β j) off ((vs.drop off).take m) := by
      intro k v hv
      rw [List.getElem?_take] at hv
      split at hv
      · rw [List.getElem?_drop] at hv
        exact hbox.at _ hv
      · cases hv
    have hl := hty.load w (β j) off _ hrange (by simp; omega)
    unfold Oper.wp execOp
    simp only [ho, hx', Instr.loadAt, Instr.sureAddr, Sem.run_bind, Sem.run_pure, Result.andThen_ok, hl, Oper.upon_value]
    refine hK _ _ _ (h.rd j hd (mkAV_ok hys fun e => ?_) (mkAV_low fun c hc => ?_))
    · have := hty.one e; simp; omega
    · obtain ⟨k, hk⟩ := List.getElem?_of_mem hc
      rw [r3 k (by have := (List.getElem?_eq_some_iff.1 hk).1; omega)] at hk
      exact hlow c (List.mem_of_getElem? hk)
  | alloc ty id zs ho hz hid =>
    obtain ⟨row, vs, h1, h2, h3, h4, h5⟩ := hz
    obtain ⟨β', hβ⟩ := h.alloc (d := o.dst) (ty := ty) (cs := zs) (vs := vs) hd hid (fun c hc => AC.nop_low (h5 c hc) _) h3 (h4 _ _ _)
    have hcells : (mkVal row vs).cells = vs.toArray := by
      cases row with
      | true => rfl
      | false =>
        obtain ⟨v, rfl⟩ : ∃ v, vs = [v] := List.length_eq_one_iff.1 (h2 rfl)
        exact oneCell_cells (h3 v (by simp)).2
    have hnew : (newVar ty (mkVal row vs)).run P w = .ok ⟨w.heap.size, 0, none⟩ (w.alloc (.cells vs.toArray ty)) := by
      unfold newVar newRow
      rw [hcells]
      rfl
    unfold Oper.wp execOp
    simp only [ho, Instr.alloc, Sem.run_bind, h1 w, Result.andThen_ok, hnew, Sem.run_pure, Oper.upon_value]
    exact hK _ _ _ hβ
  | box ty x id row cs ho hx hone hk hid =>
    obtain ⟨hxlow, hxok⟩ := h.ev hx
    obtain ⟨vs, hxe, hvs⟩ := mkAV_vals hone hxok
    have hkeep := oks_keep hk hvs
    obtain ⟨β', hβ⟩ := h.alloc (d := o.dst) (ty := ty) (cs := cs) (vs := vs) hd hid (low_mkAV hone hxlow) hkeep hvs
    have hcells : (mkVal row vs).cells = vs.toArray := by
      cases row with
      | true => rfl
      | false =>
        have := oks_len hvs
        obtain ⟨v, rfl⟩ : ∃ v, vs = [v] := List.length_eq_one_iff.1 (by rw [← this]; exact hone rfl)
        exact oneCell_cells (hkeep v (by simp)).2
    have hnew : (newVar ty (mkVal row vs)).run P w = .ok ⟨w.heap.size, 0, none⟩ (w.alloc (.cells vs.toArray ty)) := by
      unfold newVar newRow
      rw [hcells]
      rfl
    unfold Oper.wp execOp
    simp only [ho, hxe, Instr.box, Sem.run_bind, Result.andThen_ok, hnew, Sem.run_pure, Oper.upon_value]
    exact hK _ _ _ hβ
  | store ty x y j off m row t bs cs r ho hx hb hy hn hr hk hty =>
    have hx' := (h.ev hx).2
    simp only [AR.ok, AV.ok, AC.ok] at hx'
    have hone : row = false → cs.length = 1 := fun e => by rw [hn]; exact hty.one e
    obtain ⟨hylow, hyok⟩ := h.ev hy
    obtain ⟨ys, hye, hys⟩ := mkAV_vals hone hyok
    obtain ⟨hlow, vs, hbox, h1, hok⟩ := h.bxs j t bs hb
    obtain ⟨r1, r2, r3⟩ := layO_get hr
    have hlen := oks_len hok
    have hlen2 := oks_len hys
    have hkeep := oks_keep hk hys
    have hth : w.there (β j) off m := by
      intro k hk
      refine ⟨?_, hbox.free _⟩
      rw [hbox.at (off + k) (List.getElem?_eq_getElem (by omega))]
      rfl
    have hs := hty.store w (β j) off ys hth (by omega) (fun v hv => (hkeep v hv).2)
    unfold Oper.wp execOp
    simp only [ho, hx', hye, Instr.storeAt, Instr.sureAddr, Sem.run_bind, Sem.run_pure, Result.andThen_ok, hs, Oper.upon_skip]
    exact hK _ _ _ (h.store hd hb hr hk (low_mkAV hone hylow) hys)
  | call f xs ats ars res ho ha hc =>
    have hcalls := hc.calls (Gs G0 F.bx β) β w (xs.toList.map a.eval) (Gs_lt h) (oksR_evs h ha)
    obtain ⟨od, oop, oty, opos, oaf, ogd⟩ := o
    simp only at ho
    subst ho
    unfold Oper.wp
    rw [execOp_call_go]
    simp only [hc.enters, Oper.upon_enter]
    have e1 : (#[] ++ xs.map a.eval ++ #[] : Array Value) = (xs.toList.map a.eval).toArray := by
      apply Array.ext'
      simp
    rw [e1]
    refine hcalls.mono ?_
    rintro _ w' ⟨v, rfl, h1, h2⟩
    exact hK _ _ _ (h.quiet hd h2 h1 (AR.nop_low hc.nop _))
end
/-! ### the state, as lists -/
structure ASt where
  tm : List (Nat × AR)
  bx : List (Nat × TypeId × List AC)
  nb : Nat
def look {α : Type} : List (Nat × α) → Nat → Option α
  | [], _ => none
  | (k, v) :: r, t => bif Nat.beq k t then some v else look r t
def ASt.f (s : ASt) : FSt := ⟨look s.tm, look s.bx, fun j => j < s.nb⟩
def Ok (n : Nat) (G0 : Nat → Prop) (w0 : World) (s : ASt) (a : Act) (w : World) : Prop := ∃ β, OkB n G0 w0 s.f β a w
def ASt.ev (s : ASt) (x : Operand) : Option AR := s.f.ev x
theorem look_cons {α : Type} (k : Nat) (v : α) (r : List (Nat × α)) (t : Nat) : look ((k, v) :: r) t = if k = t then some v else look r t := by
  simp only [look]
  by_cases h : k = t
  · subst h; simp
  · rw [if_neg h]
    have : Nat.beq k t = false := by rw [Bool.eq_false_iff]; exact fun e => h (Nat.eq_of_beq_eq_true e)
    rw [this]; rfl
/-- The next state, as lists. -/
inductive Nx (s : ASt) (d : Option Nat) (v : AR) : Eff → ASt → Prop
  | no (tm : List (Nat × AR)) (h : tm = (match d with | some d => (d, v) :: s.tm | none => s.tm)) : Nx s d v .no ⟨tm, s.bx, s.nb⟩
  | rd (j : Nat) (tm : List (Nat × AR)) (h : tm = (match d with | some d => (d, v) :: s.tm | none => s.tm)) : Nx s d v (.rd j) ⟨tm, s.bx, s.nb⟩
  | al (t : TypeId) (cs : List AC) (tm : List (Nat × AR)) (h : tm = (match d with | some d => (d, v) :: s.tm | none => s.tm)) : Nx s d v (.al s.nb t cs) ⟨tm, (s.nb, t, cs) :: s.bx, s.nb + 1⟩
  | wr (j off : Nat) (t : TypeId) (bs cs r : List AC) (tm : List (Nat × AR)) (h : tm = (match d with | some d => (d, v) :: s.tm | none => s.tm)) (hb : look s.bx j = some (t, bs)) (hr : layO bs off cs = some r) : Nx s d v (.wr j off cs) ⟨tm, (j, t, r) :: s.bx, s.nb⟩
theorem look_put {s : ASt} {d : Option Nat} {v : AR} : look (match d with | some d => (d, v) :: s.tm | none => s.tm) = fun t => if d = some t then some v else look s.tm t := by
  funext t
  cases d with
  | none => simp
  | some d => rw [look_cons]; simp
theorem Nx.f {s s' : ASt} {d : Option Nat} {v : AR} {e : Eff} (h : Nx s d v e s') : s'.f = s.f.next d v e := by
  cases h with
  | no tm h => subst h; unfold ASt.f FSt.next; simp only [look_put]
  | rd j tm h => subst h; unfold ASt.f FSt.next; simp only [look_put]
  | al t cs tm h =>
    subst h
    unfold ASt.f FSt.next
    simp only [look_put]
    congr 1
    · funext k
      rw [look_cons]
      by_cases e : s.nb = k
      · rw [if_pos e, if_pos e.symm]
      · rw [if_neg e, if_neg (Ne.symm e)]
    · funext k
      exact propext ⟨fun h => by omega, fun h => by omega⟩
  | wr j off t bs cs r tm h hb hr =>
    subst h
    unfold ASt.f FSt.next
    simp only [look_put]
    congr 1
    funext k
    rw [look_cons]
    by_cases e : j = k
    · subst e
      rw [if_pos rfl, if_pos rfl, hb]
      simp [layD, hr]
    · rw [if_neg e, if_neg (Ne.symm e)]
end Go.Proofs.YtonbhpadoplpkaaGreat
/- An abstract machine: regions, in whatever order. -/
namespace Go.Proofs.YtonbhpadoplpkaaGreat
open Go.RowKit Go.Deep
/-! ### what is waited for by a condition -/
def dstIn (all : List Oper) (j : Nat) : Option Nat := match all[j]? with
  | some o => o.dst
  | none => none
inductive GOk (all : List Oper) (tm : Nat → Option AR) : Option (Nat × Bool) → Bool → Prop
  | none : GOk all tm none true
  | some (j : Nat) (b : Bool) (d : Nat) (t : Bool) (want : Bool) (hd : dstIn all j = some d) (ht : tm d = some (.val (.one (.b t)))) (hw : want = (t == b)) : GOk all tm (some (j, b)) want
theorem wanted_of {n : Nat} {G0 : Nat → Prop} {w0 : World} {F : FSt} {β : Nat → Nat} {a : Act} {w : World} (h : OkB n G0 w0 F β a w) {all : List Oper} {o : Oper} {want : Bool} (hg : GOk all F.tm o.guard want) : Region.wanted o (yielded all.toArray a.tmps) = want := by
  unfold Region.wanted
  generalize o.guard = g at hg
  cases hg with
  | none => rfl
  | some j b d t want hd ht hw =>
    have hv := (h.tms d _ ht).2
    have hv : a.tmps.getD d undef = .bool t := hv
    have hs : a.tmps[d]? = some (.bool t) := by
      rw [Array.getD_eq_getD_getElem?] at hv
      cases he : a.tmps[d]? with
      | none => rw [he] at hv; simp [undef] at hv
      | some v => rw [he] at hv; simp at hv; rw [hv]
    have hd2 : (all.toArray[j]?).bind (·.dst) = some d := by
      unfold dstIn at hd
      cases hj : all[j]? with
      | none => rw [hj] at hd; cases hd
      | some o' => rw [hj] at hd; simpa [hj] using hd
    have hy : yielded all.toArray a.tmps j = some t := by
      unfold yielded
      rw [hd2, Option.bind_some, hs]
    simp only [hy]
    subst hw
    cases t <;> cases b <;> rfl
/-- What is done, or let be. -/
def Does (P : Program) (F : FSt) (o : Oper) (want : Bool) (v : AR) (e : Eff) : Prop := (want = true ∧ OpOk P F o v e) ∨ (want = false ∧ v = .val (.one .any) ∧ e = .no)
theorem OkB.does {P : Program} {n : Nat} {G0 : Nat → Prop} {w0 : World} {F : FSt} {β : Nat → Nat} {a : Act} {w : World} (h : OkB n G0 w0 F β a w) {o : Oper} {v : AR} {e : Eff} {want : Bool} (hd : ∀ d, o.dst = some d → d < n)
    (hop : Does P F o want v e) {K : Act → World → Prop} {Q : Exit → Act → World → Prop} (hK : ∀ β' a' w', OkB n G0 w0 (F.next o.dst v e) β' a' w' → K a' w') : if want = true then o.wp P a w K Q else K (a.put o.dst undef) w := by
  rcases hop with ⟨rfl, hop⟩ | ⟨rfl, rfl, rfl⟩
  · rw [if_pos rfl]
    exact h.op hd hop hK
  · rw [if_neg (by simp)]
    exact hK _ _ _ (h.quiet hd (Below.refl _ _) trivial trivial)
/-! ### the walk in the order of the text -/
inductive Lex (P : Program) (n : Nat) (all : List Oper) : ASt → List Oper → List (AR × Eff) → ASt → Prop
  | nil (s : ASt) : Lex P n all s [] [] s
  | cons (s s1 s' : ASt) (o : Oper) (ops : List Oper) (want : Bool) (v : AR) (e : Eff) (rs : List (AR × Eff)) (hg : GOk all s.f.tm o.guard want) (hd : ∀ d, o.dst = some d → d < n) (ho : Does P s.f o want v e) (hn : Nx s o.dst v e s1)
      (ht : Lex P n all s1 ops rs s') : Lex P n all s (o :: ops) ((v, e) :: rs) s'
theorem wpList_lex {P : Program} {n : Nat} {G0 : Nat → Prop} {w0 : World} {all : List Oper} {Q : Exit → Act → World → Prop} : ∀ {s : ASt} {ops : List Oper} {rs : List (AR × Eff)} {s' : ASt}, Lex P n all s ops rs s' →
    (∀ a w, Ok n G0 w0 s' a w → Q .normal a w) → ∀ a w, Ok n G0 w0 s a w → wpList P all.toArray Q ops a w := by
  intro s ops rs s' h
  induction h with
  | nil s => exact fun hQ a w h => hQ a w h
  | cons s s1 s' o ops want v e rs hg hd ho hn ht ih =>
    intro hQ a w h
    obtain ⟨β, h⟩ := h
    refine wpList_step fun K hK => ?_
    rw [wanted_of h hg]
    exact h.does hd ho fun β' a' w' h' => hK _ _ (ih hQ a' w' ⟨β', by rw [hn.f]; exact h'⟩)
/-! ### what has been done, in whatever order -/
section
variable (F0 : FSt) (ops : List Oper) (rs : List (AR × Eff))
def dstOf (k : Nat) : Option Nat := (ops[k]?).bind (·.dst)
def resOf (k : Nat) : AR × Eff := rs.getD k (.tup [], .no)
/-- Of the first m those that L lists. -/
def FL (L : Nat → Bool) : Nat → FSt
  | 0 => F0
  | m + 1 => if L m = true then (FL L m).next (dstOf ops m) (resOf rs m).1 (resOf rs m).2 else FL L m
end
def Eff.box : Eff → Option Nat
  | .no => none
  | .rd j => some j
  | .al id _ _ => some id
  | .wr j _ _ => some j
def Eff.out : Eff → Option Nat
  | .no => none
  | .rd _ => none
  | .al id _ _ => some id
  | .wr j _ _ => some j
theorem Eff.out_box {e : Eff} {j : Nat} (h : e.out = some j) : e.box = some j := by cases e <;> first | exact h | cases h
theorem next_tm {F : FSt} {d : Option Nat} {v : AR} {e : Eff} {t : Nat} (h : d ≠ some t) : (F.next d v e).tm t = F.tm t := by simp [FSt.next, h]
theorem next_bx {F : FSt} {d : Option Nat} {v : AR} {e : Eff} {j : Nat} (h : e.out ≠ some j) : (F.next d v e).bx j = F.bx j := by
  cases e with
  | no => rfl
  | rd k => rfl
  | al id t cs => simp only [FSt.next]; rw [if_neg (fun e => h (by subst e; rfl))]
  | wr k off vs => simp only [FSt.next]; rw [if_neg (fun e => h (by subst e; rfl))]
theorem next_tm_congr {F F' : FSt} {d : Option Nat} {v : AR} {e : Eff} {t : Nat} (h : F.tm t = F'.tm t) : (F.next d v e).tm t = (F'.next d v e).tm t := by simp [FSt.next, h]
theorem next_bx_congr {F F' : FSt} {d : Option Nat} {v : AR} {e : Eff} {j : Nat} (h : F.bx j = F'.bx j) : (F.next d v e).bx j = (F'.next d v e).bx j := by cases e <;> simp [FSt.next, h]
section
variable {F0 : FSt} {ops : List Oper} {rs : List (AR × Eff)}
abbrev allL : Nat → Bool := fun _ => true
theorem FL_tm_prefix {L : Nat → Bool} {t p : Nat} (m : Nat) (h : ∀ k, k < m → dstOf ops k = some t → (L k = true ↔ k < p)) (hp : p ≤ m) : (FL F0 ops rs L m).tm t = (FL F0 ops rs allL p).tm t := by
  have key : ∀ q, q ≤ m → (FL F0 ops rs L q).tm t = (FL F0 ops rs allL (min q p)).tm t := by
    intro q
    induction q with
    | zero => intro _; simp [FL]
    | succ q ih =>
      intro hq
      have ih := ih (by omega)
      by_cases hw : dstOf ops q = some t
      · have hL := h q (by omega) hw
        by_cases hl : L q = true
        · have hqp := hL.1 hl
          rw [show min (q + 1) p = q + 1 by omega]
          rw [show min q p = q by omega] at ih
          simp only [FL, hl, if_true]
          exact next_tm_congr ih
        · have hqp : ¬ q < p := fun e => hl (hL.2 e)
          rw [show min (q + 1) p = min q p by omega, ← ih]
          simp only [FL, if_neg hl]
      · have e1 : (FL F0 ops rs L (q + 1)).tm t = (FL F0 ops rs L q).tm t := by
          simp only [FL]
          split
          · exact next_tm hw
          · rfl
        rw [e1, ih]
        by_cases hqp : q < p
        · rw [show min (q + 1) p = q + 1 by omega, show min q p = q by omega]
          simp only [FL, allL, if_true]
          exact (next_tm hw).symm
        · rw [show min (q + 1) p = min q p by omega]
  rw [key m (Nat.le_refl _), Nat.min_eq_right hp]
theorem FL_bx_prefix {L : Nat → Bool} {j p : Nat} (m : Nat) (h : ∀ k, k < m → (resOf rs k).2.out = some j → (L k = true ↔ k < p)) (hp : p ≤ m) : (FL F0 ops rs L m).bx j = (FL F0 ops rs allL p).bx j := by
  have key : ∀ q, q ≤ m → (FL F0 ops rs L q).bx j = (FL F0 ops rs allL (min q p)).bx j := by
    intro q
    induction q with
    | zero => intro _; simp [FL]
    | succ q ih =>
      intro hq
      have ih := ih (by omega)
      by_cases hw : (resOf rs q).2.out = some j
      · have hL := h q (by omega) hw
        by_cases hl : L q = true
        · have hqp := hL.1 hl
          rw [show min (q + 1) p = q + 1 by omega]
          rw [show min q p = q by omega] at ih
          simp only [FL, hl, if_true]
          exact next_bx_congr ih
        · have hqp : ¬ q < p := fun e => hl (hL.2 e)
          rw [show min (q + 1) p = min q p by omega, ← ih]
          simp only [FL, if_neg hl]
      · have e1 : (FL F0 ops rs L (q + 1)).bx j = (FL F0 ops rs L q).bx j := by
          simp only [FL]
          split
          · exact next_bx hw
          · rfl
        rw [e1, ih]
        by_cases hqp : q < p
        · rw [show min (q + 1) p = q + 1 by omega, show min q p = q by omega]
          simp only [FL, allL, if_true]
          exact (next_bx hw).symm
        · rw [show min (q + 1) p = min q p by omega]
  rw [key m (Nat.le_refl _), Nat.min_eq_right hp]
theorem FL_tm_congr {L L' : Nat → Bool} {t : Nat} (m : Nat) (h : ∀ k, k < m → dstOf ops k = some t → L k = L' k) : (FL F0 ops rs L m).tm t = (FL F0 ops rs L' m).tm t := by
  induction m with
  | zero => rfl
  | succ m ih =>
    have ih := ih fun k hk => h k (by omega)
    simp only [FL]
    by_cases hw : dstOf ops m = some t
    · rw [h m (by omega) hw]
      split
      · exact next_tm_congr ih
      · exact ih
    · split <;> split <;> simp only [next_tm hw, ih]
theorem FL_bx_congr {L L' : Nat → Bool} {j : Nat} (m : Nat) (h : ∀ k, k < m → (resOf rs k).2.out = some j → L k = L' k) : (FL F0 ops rs L m).bx j = (FL F0 ops rs L' m).bx j := by
  induction m with
  | zero => rfl
  | succ m ih =>
    have ih := ih fun k hk => h k (by omega)
    simp only [FL]
    by_cases hw : (resOf rs m).2.out = some j
    · rw [h m (by omega) hw]
      split
      · exact next_bx_congr ih
      · exact ih
    · split <;> split <;> simp only [next_bx hw, ih]
def isAl (e : Eff) (j : Nat) : Prop := ∃ t cs, e = .al j t cs
theorem next_us {F : FSt} {d : Option Nat} {v : AR} {e : Eff} {j : Nat} : (F.next d v e).us j ↔ isAl e j ∨ F.us j := by
  cases e with
  | no => exact ⟨.inr, fun h => h.elim (fun ⟨_, _, h⟩ => by cases h) id⟩
  | rd k => exact ⟨.inr, fun h => h.elim (fun ⟨_, _, h⟩ => by cases h) id⟩
  | wr k off vs => exact ⟨.inr, fun h => h.elim (fun ⟨_, _, h⟩ => by cases h) id⟩
  | al id t cs =>
    simp only [FSt.next]
    constructor
    · rintro (rfl | h)
      · exact .inl ⟨_, _, rfl⟩
      · exact .inr h
    · rintro (⟨_, _, h⟩ | h)
      · cases h; exact .inl rfl
      · exact .inr h
theorem FL_us {L : Nat → Bool} {j : Nat} (m : Nat) : (FL F0 ops rs L m).us j ↔ F0.us j ∨ ∃ k, k < m ∧ L k = true ∧ isAl (resOf rs k).2 j := by
  induction m with
  | zero => simp [FL]
  | succ m ih =>
    simp only [FL]
    split
    · rename_i hl
      rw [next_us, ih]
      constructor
      · rintro (h | h | ⟨k, hk, h⟩)
        · exact .inr ⟨m, by omega, hl, h⟩
        · exact .inl h
        · exact .inr ⟨k, by omega, h⟩
      · rintro (h | ⟨k, hk, h1, h2⟩)
        · exact .inr (.inl h)
        · by_cases e : k = m
          · subst e; exact .inl h2
          · exact .inr (.inr ⟨k, by omega, h1, h2⟩)
    · rename_i hl
      rw [ih]
      constructor
      · rintro (h | ⟨k, hk, h⟩)
        · exact .inl h
        · exact .inr ⟨k, by omega, h⟩
      · rintro (h | ⟨k, hk, h1, h2⟩)
        · exact .inl h
        · by_cases e : k = m
          · subst e; exact absurd h1 hl
          · exact .inr ⟨k, by omega, h1, h2⟩
end
theorem FSt.ext' {F F' : FSt} (h1 : ∀ t, F.tm t = F'.tm t) (h2 : ∀ j, F.bx j = F'.bx j) (h3 : ∀ j, F.us j ↔ F'.us j) : F = F' := by
  cases F; cases F'
  simp only [FSt.mk.injEq]
  exact ⟨funext h1, funext h2, funext fun j => propext (h3 j)⟩
/-! ### the check -/
/-- Whom does each wait for, at last? As bits. -/
def masks (ws : List (List Nat)) : List Nat := ws.foldl (fun acc l => acc ++ [l.foldl (fun m j => m ||| (1 <<< j) ||| acc.getD j 0) 0]) []
inductive Anc (W : Nat → List Nat) : Nat → Nat → Prop
  | one {i k : Nat} (h : k ∈ W i) : Anc W i k
  | far {i j k : Nat} (h : j ∈ W i) (h' : Anc W j k) : Anc W i k
theorem masks_row {W : Nat → List Nat} {acc : List Nat} {i : Nat} (hacc : ∀ j k, (acc.getD j 0).testBit k = true → Anc W j k) :
    ∀ (l : List Nat) (m : Nat), (∀ j ∈ l, j ∈ W i) → (∀ k, m.testBit k = true → Anc W i k) → ∀ k, (l.foldl (fun m j => m ||| (1 <<< j) ||| acc.getD j 0) m).testBit k = true → Anc W i k
  | [], m, _, hm, k, h => hm k h
  | j :: l, m, hl, hm, k, h => by
    refine masks_row hacc l _ (fun x hx => hl x (by simp [hx])) (fun k hk => ?_) k h
    rw [Nat.testBit_or, Nat.testBit_or, Bool.or_eq_true, Bool.or_eq_true] at hk
    rcases hk with (hk | hk) | hk
    · exact hm k hk
    · rw [Nat.one_shiftLeft, Nat.testBit_two_pow] at hk
      exact .one (by rw [← of_decide_eq_true hk]; exact hl j (by simp))
    · exact .far (hl j (by simp)) (hacc j k hk)
theorem masks_anc {W : Nat → List Nat} : ∀ (ws : List (List Nat)) (acc : List Nat), (∀ x l, ws[x]? = some l → ∀ j ∈ l, j ∈ W (acc.length + x)) → (∀ j k, (acc.getD j 0).testBit k = true → Anc W j k) →
    ∀ j k, ((ws.foldl (fun acc l => acc ++ [l.foldl (fun m j => m ||| (1 <<< j) ||| acc.getD j 0) 0]) acc).getD j 0).testBit k = true → Anc W j k
  | [], acc, _, hacc, j, k, h => hacc j k h
  | l :: ws, acc, hw, hacc, j, k, h => by
    refine masks_anc ws _ (fun x l' hx y hy => ?_) (fun y z hz => ?_) j k h
    · have := hw (x + 1) l' (by simpa using hx) y hy
      rwa [show acc.length + (x + 1) = (acc ++ [l.foldl (fun m j => m ||| (1 <<< j) ||| acc.getD j 0) 0]).length + x by simp; omega] at this
    · rw [List.getD_eq_getElem?_getD] at hz
      rcases Nat.lt_trichotomy y acc.length with h1 | h1 | h1
      · rw [List.getElem?_append_left h1, ← List.getD_eq_getElem?_getD] at hz
        exact hacc y z hz
      · subst h1
        rw [List.getElem?_append_right (Nat.le_refl _)] at hz
        simp only [Nat.sub_self, List.getElem?_cons_zero, Option.getD_some] at hz
        exact masks_row hacc l 0 (fun j hj => by have := hw 0 l (by simp) j hj; simpa using this) (fun k hk => by simp at hk) z hz
      · rw [List.getElem?_append_right (by omega)] at hz
        have : y - acc.length ≠ 0 := by omega
        obtain ⟨q, hq⟩ := Nat.exists_eq_succ_of_ne_zero this
        rw [hq] at hz
        simp at hz
/-- The slots that an operation reads; the box that it meets. -/
def gSlot (all : List Oper) (o : Oper) : List Nat := match o.guard with
  | some (j, _) => match dstIn all j with
    | some d => [d]
    | none => []
  | none => []
def slotsOf (o : Oper) : List Nat := o.op.operands.toList.filterMap fun | .tmp t => some t | _ => none
def memB (t : Nat) : List Nat → Bool
  | [] => false
  | x :: xs => Nat.beq x t || memB t xs
theorem memB_iff {t : Nat} : ∀ {l : List Nat}, memB t l = true ↔ t ∈ l
  | [] => by simp [memB]
  | x :: xs => by
    simp only [memB, Bool.or_eq_true, memB_iff (l := xs), List.mem_cons]
    constructor
    · rintro (h | h)
      · exact .inl (Nat.eq_of_beq_eq_true h).symm
      · exact .inr h
    · rintro (h | h)
      · subst h; exact .inl (Nat.beq_refl t)
      · exact .inr h
/-- Does one of two write what the other meets? -/
structure Foot where
  reads : List Nat
  dst : Option Nat
  box : Option Nat
  out : Option Nat
def footOf (all : List Oper) (o : Oper) (r : AR × Eff) : Foot := ⟨gSlot all o ++ slotsOf o, o.dst, r.2.box, r.2.out⟩
def hits (w : Option Nat) (l : List Nat) : Bool := match w with | some t => memB t l | none => false
def sameO (a b : Option Nat) : Bool := match a, b with | some x, some y => Nat.beq x y | _, _ => false
def clash (a b : Foot) : Bool := hits a.dst b.reads || hits b.dst a.reads || sameO a.dst b.dst || sameO a.out b.box || sameO b.out a.box
def ordRow (f : Foot) (m : Nat) : List Foot → Nat → Bool
  | [], _ => true
  | g :: gs, k => (!(clash f g) || m.testBit k) && ordRow f m gs (k + 1)
/-- The feet, from the last one down: earlier ones that clash are waited for. -/
def ordAll : List (Foot × Nat) → Bool
  | [] => true
  | (f, m) :: rest => ordRow f m (rest.reverse.map (·.1)) 0 && ordAll rest
def waitsL (ops : List Oper) : List (List Nat) := ops.map fun o => (o.after.toList.filter fun e => Region.binds .any e).map (·.on)
def ordB (ops : List Oper) (rs : List (AR × Eff)) : Bool :=
  invB ops.toArray ops.length && ordAll (((ops.zipWith (footOf ops) rs).zip (masks (waitsL ops))).reverse)
theorem ordRow_get {f : Foot} {m : Nat} : ∀ {gs : List Foot} {k : Nat}, ordRow f m gs k = true → ∀ x g, gs[x]? = some g → clash f g = true → m.testBit (k + x) = true
  | [], _, _, x, g, hx, _ => by simp at hx
  | g :: gs, k, h, 0, g', hx, hc => by
    simp at hx; subst hx
    simp only [ordRow, Bool.and_eq_true, Bool.or_eq_true, Bool.not_eq_true'] at h
    rcases h.1 with h1 | h1
    · rw [hc] at h1; cases h1
    · exact h1
  | g :: gs, k, h, x + 1, g', hx, hc => by
    simp only [ordRow, Bool.and_eq_true] at h
    have := ordRow_get h.2 x g' (by simpa using hx) hc
    rwa [show k + 1 + x = k + (x + 1) by omega] at this
theorem ordAll_get : ∀ {l : List (Foot × Nat)}, ordAll l = true → ∀ (pre : List (Foot × Nat)) (f : Foot) (m : Nat) (post : List (Foot × Nat)), l.reverse = pre ++ (f, m) :: post → ∀ x g mg, pre[x]? = some (g, mg) → clash f g = true → m.testBit x = true
  | [], _, pre, f, m, post, h, _, _, _, _, _ => by simp at h
  | (f0, m0) :: rest, h, pre, f, m, post, hl, x, g, mg, hx, hc => by
    simp only [ordAll, Bool.and_eq_true] at h
    rcases List.eq_nil_or_concat post with rfl | ⟨post', y, rfl⟩
    · rw [List.reverse_cons] at hl
      have := List.append_inj' hl (by simp)
      obtain ⟨h1, h2⟩ := this
      cases h2
      have := ordRow_get h.1 x g (by rw [h1]; simp [hx]) hc
      simpa using this
    · rw [List.reverse_cons] at hl
      rw [List.concat_eq_append, ← List.cons_append, ← List.append_assoc] at hl
      have := (List.append_inj' hl (by simp)).1
      exact ordAll_get h.2 pre f m post' this x g mg hx hc
end Go.Proofs.YtonbhpadoplpkaaGreat
/- An abstract machine: a region that draws its order; code. -/
namespace Go.Proofs.YtonbhpadoplpkaaGreat
open Go.RowKit Go.Deep
section
variable {P : Program} {n : Nat} {all : List Oper}
theorem FL_shift {F0 : FSt} {o : Oper} {ops : List Oper} {v : AR} {e : Eff} {rs : List (AR × Eff)} (m : Nat) : FL F0 (o :: ops) ((v, e) :: rs) allL (m + 1) = FL (F0.next o.dst v e) ops rs allL m := by
  induction m with
  | zero => simp [FL, dstOf, resOf]
  | succ m ih =>
    rw [FL, ih]
    simp only [FL, allL, if_true, dstOf, resOf]
    simp
theorem lex_len {s s' : ASt} {ops : List Oper} {rs : List (AR × Eff)} (h : Lex P n all s ops rs s') : rs.length = ops.length := by
  induction h with
  | nil s => rfl
  | cons s s1 s' o ops want v e rs hg hd ho hn ht ih => simp [ih]
theorem lex_get {s s' : ASt} {ops : List Oper} {rs : List (AR × Eff)} (h : Lex P n all s ops rs s') : ∀ i, i < ops.length → ∃ o want v e, ops[i]? = some o ∧ rs[i]? = some (v, e) ∧ GOk all (FL s.f ops rs allL i).tm o.guard want ∧ (∀ d, o.dst = some d → d < n) ∧ Does P (FL s.f ops rs allL i) o want v e := by
  induction h with
  | nil s => intro i hi; simp at hi
  | cons s s1 s' o ops want v e rs hg hd ho hn ht ih =>
    intro i hi
    cases i with
    | zero => exact ⟨o, want, v, e, by simp, by simp, hg, hd, ho⟩
    | succ i =>
      obtain ⟨o', want', v', e', h1, h2, h3, h4, h5⟩ := ih i (by simpa using hi)
      exact ⟨o', want', v', e', by simpa using h1, by simpa using h2, by rw [FL_shift, ← hn.f]; exact h3, h4, by rw [FL_shift, ← hn.f]; exact h5⟩
theorem lex_end {s s' : ASt} {ops : List Oper} {rs : List (AR × Eff)} (h : Lex P n all s ops rs s') : s'.f = FL s.f ops rs allL ops.length := by
  induction h with
  | nil s => rfl
  | cons s s1 s' o ops want v e rs hg hd ho hn ht ih => rw [List.length_cons, FL_shift, ← hn.f]; exact ih
theorem evs_congr {f g : Operand → Option AR} : ∀ {xs : List Operand}, (∀ x ∈ xs, f x = g x) → evs f xs = evs g xs
  | [], _ => rfl
  | x :: xs, h => by simp only [evs]; rw [h x (by simp), evs_congr fun y hy => h y (by simp [hy])]
theorem ev_congr {F F' : FSt} {o : Oper} (ht : ∀ t, t ∈ slotsOf o → F'.tm t = F.tm t) {x : Operand} (hx : x ∈ o.op.operands.toList) : F'.ev x = F.ev x := by
  cases x with
  | tmp t => exact ht t (List.mem_filterMap.2 ⟨.tmp t, hx, rfl⟩)
  | const v => rfl
  | global g => rfl
  | func f => rfl
/-- What an operation does hangs on what it meets. -/
theorem OpOk.frame {F F' : FSt} {o : Oper} {v : AR} {e : Eff} (h : OpOk P F o v e) (ht : ∀ t, t ∈ slotsOf o → F'.tm t = F.tm t) (hb : ∀ j, e.box = some j → (¬ ∃ k, isAl e k) → F'.bx j = F.bx j) (hu : ∀ j, isAl e j → ¬ F'.us j) : OpOk P F' o v e := by
  cases h with
  | quiet v h =>
    refine .quiet v fun G β w U ρ hG hρ => h G β w U ρ hG fun x r hx hr => hρ x r hx ?_
    rw [ev_congr ht hx]; exact hr
  | load ty x j off m row t bs cs ho hx hbb hr hty =>
    refine .load ty x j off m row t bs cs ho ?_ ?_ hr hty
    · rw [ev_congr ht (by rw [ho]; simp [Op.operands])]; exact hx
    · rw [hb j rfl (fun ⟨_, _, _, h⟩ => by cases h)]; exact hbb
  | alloc ty id zs ho hz hid => exact .alloc ty id zs ho hz (hu id ⟨_, _, rfl⟩)
  | box ty x id row cs ho hx hone hk hid =>
    refine .box ty x id row cs ho ?_ hone hk (hu id ⟨_, _, rfl⟩)
    rw [ev_congr ht (by rw [ho]; simp [Op.operands])]; exact hx
  | store ty x y j off m row t bs cs r ho hx hbb hy hn hr hk hty =>
    refine .store ty x y j off m row t bs cs r ho ?_ ?_ ?_ hn hr hk hty
    · rw [ev_congr ht (by rw [ho]; simp [Op.operands])]; exact hx
    · rw [hb j rfl (fun ⟨_, _, _, h⟩ => by cases h)]; exact hbb
    · rw [ev_congr ht (by rw [ho]; simp [Op.operands])]; exact hy
  | call f xs ats ars res ho ha hc =>
    refine .call f xs ats ars v ho ?_ hc
    rw [← ha]
    refine evs_congr fun x hx => ev_congr ht ?_
    rw [ho]
    simp only [Op.operands, Call.operands, Array.toList_append, List.mem_append]
    exact .inr hx
theorem Does.frame {F F' : FSt} {o : Oper} {want : Bool} {v : AR} {e : Eff} (h : Does P F o want v e) (ht : ∀ t, t ∈ slotsOf o → F'.tm t = F.tm t) (hb : ∀ j, e.box = some j → (¬ ∃ k, isAl e k) → F'.bx j = F.bx j) (hu : ∀ j, isAl e j → ¬ F'.us j) : Does P F' o want v e := by
  rcases h with ⟨h1, h⟩ | h
  · exact .inl ⟨h1, h.frame ht hb hu⟩
  · exact .inr h
theorem GOk.frame {F F' : FSt} {o : Oper} {want : Bool} (h : GOk all F.tm o.guard want) (ht : ∀ t, t ∈ gSlot all o → F'.tm t = F.tm t) : GOk all F'.tm o.guard want := by
  unfold gSlot at ht
  generalize o.guard = g at *
  cases h with
  | none => exact .none
  | some j b d t want hd htm hw =>
    refine .some j b d t want hd ?_ hw
    rw [ht d (by simp [hd])]
    exact htm
theorem Does.alloc {F : FSt} {o : Oper} {want : Bool} {v : AR} {id : Nat} {t : TypeId} {cs : List AC} (h : Does P F o want v (.al id t cs)) : ¬ F.us id := by
  rcases h with ⟨_, h⟩ | ⟨_, _, h⟩
  · cases h with
    | alloc ty id zs ho hz hidn => exact hidn
    | box ty x id row cs ho hx hone hk hidn => exact hidn
  · cases h
/-- By an invariant: what is listed; operations that are let be too. -/
theorem wp_region_inv' {Q : Exit → Act → World → Prop} {id : Nat} {l : List Oper} (J : (Nat → Bool) → Act → World → Prop) {a : Act} {w : World} (hm : P.follows .mixedOrders = true)
    (hB : invB l.toArray l.length = true) (h0 : J (fun _ => false) a (w.drewN 1))
    (hstep : ∀ i o L a1 w, i < l.length → nthOp l i = some o → L i = false → (∀ j, (waits .any l.toArray i).contains j = true → L j = true) → J L a1 w → ∀ K : Act → World → Prop, (∀ a' w', J (upd L i) a' w' → K a' w') → if Region.wanted o (yielded l.toArray a1.tmps) = true then o.wp P a1 w K noWay else K (a1.put o.dst undef) w)
    (htail : ∀ L a1 w, (∀ i, i < l.length → L i = true) → J L a1 w → Q .normal a1 w) : (Code.region id l.toArray true).wp P Q a w := by
  simp only [invB, Bool.and_eq_true, decide_eq_true_eq] at hB
  obtain ⟨⟨⟨htb, he⟩, hc⟩, hk⟩ := hB
  have hz : ∀ i, (Array.replicate l.toArray.size false).getD i false = false := fun i => by
    rw [Array.getD_eq_getD_getElem?, Array.getElem?_replicate]; split <;> rfl
  have hall : ∀ k, unl (Array.replicate l.toArray.size false) k = k := by
    intro k
    induction k with
    | zero => rfl
    | succ k ih => simp only [unl, ih, hz]; simp
  refine wp_region_any hm ?_
  have h1 := wpAny_inv (P := P) (Q := Q) (J := J) [] (fun j => by simp) (by simp) hk htb he hc (fun i o L a w hik ho hL hw hJ => ?_) htail l.length (Array.replicate l.toArray.size false) a (w.drewN 1) (hall l.length)
    (fun j o _ hl => by rw [hz] at hl; cases hl) (by simp) (fun i _ => hz i) (by
      have e : (fun j => (Array.replicate l.toArray.size false).getD j false) = fun _ => false := funext hz
      rw [e]; exact h0)
  · rw [show l.length + (l.toArray.size - l.length) = l.toArray.size by simp] at h1
    exact h1
  · have hs := hstep i o L a w hik (by rw [nthOp_eq]; simpa using ho) hL (fun j hj => hw j (by simpa using hj)) hJ _ (fun a' w' h => h)
    unfold lOp
    simp only [ho]
    exact hs
theorem masks_len_aux : ∀ (ws : List (List Nat)) (acc : List Nat), (ws.foldl (fun acc l => acc ++ [l.foldl (fun m j => m ||| (1 <<< j) ||| acc.getD j 0) 0]) acc).length = acc.length + ws.length
  | [], acc => by simp
  | l :: ws, acc => by
    rw [List.foldl_cons, masks_len_aux ws]
    simp; omega
theorem masks_len (ws : List (List Nat)) : (masks ws).length = ws.length := by
  unfold masks
  rw [masks_len_aux]
  simp
abbrev Wa (ops : List Oper) : Nat → List Nat := fun i => waits .any ops.toArray i
theorem waitsL_get {ops : List Oper} {x : Nat} {l : List Nat} (h : (waitsL ops)[x]? = some l) : l = Wa ops x := by
  unfold waitsL at h
  rw [List.getElem?_map] at h
  cases ho : ops[x]? with
  | none => simp [ho] at h
  | some o =>
    simp only [ho, Option.map_some, Option.some.injEq] at h
    subst h
    have ho2 : ops.toArray[x]? = some o := by simpa using ho
    unfold Wa waits
    rw [ho2]
theorem masks_Anc {ops : List Oper} {j k : Nat} (h : ((masks (waitsL ops)).getD j 0).testBit k = true) : Anc (Wa ops) j k := by
  refine masks_anc (W := Wa ops) (waitsL ops) [] (fun x l hl y hy => ?_) (fun j k h => by simp at h) j k h
  rw [waitsL_get hl] at hy
  simpa using hy
theorem clash_anc {ops : List Oper} {rs : List (AR × Eff)} (hl : rs.length = ops.length) (ho : ordAll (((ops.zipWith (footOf ops) rs).zip (masks (waitsL ops))).reverse) = true)
    {i k : Nat} {oi ok : Oper} {ri rk : AR × Eff} (hi : ops[i]? = some oi) (hk : ops[k]? = some ok) (hri : rs[i]? = some ri) (hrk : rs[k]? = some rk) (hki : k < i) (hc : clash (footOf ops oi ri) (footOf ops ok rk) = true) : Anc (Wa ops) i k := by
  have hil : i < ops.length := (List.getElem?_eq_some_iff.1 hi).1
  have hml : (masks (waitsL ops)).length = ops.length := by rw [masks_len]; simp [waitsL]
  obtain ⟨l, hle⟩ : ∃ l, (ops.zipWith (footOf ops) rs).zip (masks (waitsL ops)) = l := ⟨_, rfl⟩
  have hget : ∀ x ox rx, ops[x]? = some ox → rs[x]? = some rx → l[x]? = some (footOf ops ox rx, (masks (waitsL ops)).getD x 0) := by
    intro x ox rx hx hrx
    have hxl : x < ops.length := (List.getElem?_eq_some_iff.1 hx).1
    rw [← hle, List.getElem?_zip_eq_some]
    refine ⟨?_, ?_⟩
    · simp only [List.getElem?_zipWith, hx, hrx]
    · rw [List.getD_eq_getElem?_getD, List.getElem?_eq_getElem (by omega)]; rfl
  have hll : l.length = ops.length := by rw [← hle]; simp [hml, hl]
  rw [hle] at ho
  have hsplit : l.reverse.reverse = l.take i ++ (footOf ops oi ri, (masks (waitsL ops)).getD i 0) :: l.drop (i + 1) := by
    rw [List.reverse_reverse]
    have h1 := hget i oi ri hi hri
    have h2 := List.getElem?_eq_some_iff.1 h1
    rw [← h2.2]
    simp
  have := ordAll_get ho (l.take i) _ _ _ hsplit k (footOf ops ok rk) ((masks (waitsL ops)).getD k 0) (by rw [List.getElem?_take, if_pos hki]; exact hget k ok rk hk hrk) hc
  exact masks_Anc this
theorem clash_symm (a b : Foot) : clash a b = clash b a := by
  unfold clash
  have e : sameO a.dst b.dst = sameO b.dst a.dst := by
    cases a.dst <;> cases b.dst <;> simp [sameO]
    rename_i x y
    rw [Bool.eq_iff_iff]
    constructor
    · intro h; rw [Nat.eq_of_beq_eq_true h]; exact Nat.beq_refl _
    · intro h; rw [Nat.eq_of_beq_eq_true h]; exact Nat.beq_refl _
  rw [e]
  cases hits a.dst b.reads <;> cases hits b.dst a.reads <;> cases sameO b.dst a.dst <;> cases sameO a.out b.box <;> cases sameO b.out a.box <;> rfl
def ClosedL (ops : List Oper) (L : Nat → Bool) : Prop := ∀ i k, L i = true → k ∈ Wa ops i → L k = true
theorem closed_anc {ops : List Oper} {L : Nat → Bool} (h : ClosedL ops L) {i k : Nat} (ha : Anc (Wa ops) i k) : L i = true → L k = true := by
  induction ha with
  | one hk => exact fun hi => h _ _ hi hk
  | far hj _ ih => exact fun hi => ih (h _ _ hi hj)
theorem ready_anc {ops : List Oper} {L : Nat → Bool} (h : ClosedL ops L) {i k : Nat} (hw : ∀ j, j ∈ Wa ops i → L j = true) (ha : Anc (Wa ops) i k) : L k = true := by
  cases ha with
  | one hk => exact hw _ hk
  | far hj h' => exact closed_anc h h' (hw _ hj)
/-- **A REGION IN WHATEVER ORDER** comes to what it comes to in the order of its text. -/
theorem region_any {G0 : Nat → Prop} {w0 : World} {s s' : ASt} {ops : List Oper} {rs : List (AR × Eff)} {id : Nat} {Q : Exit → Act → World → Prop} (hm : P.follows .mixedOrders = true) (hl : Lex P n ops s ops rs s') (hord : ordB ops rs = true)
    (hQ : ∀ a w, Ok n G0 w0 s' a w → Q .normal a w) (a : Act) (w : World) (h : Ok n G0 w0 s a w) : (Code.region id ops.toArray true).wp P Q a w := by
  obtain ⟨β, h⟩ := h
  simp only [ordB, Bool.and_eq_true] at hord
  obtain ⟨hB, hord⟩ := hord
  have hlen := lex_len hl
  have hget := lex_get hl
  have hres : ∀ i v e, rs[i]? = some (v, e) → resOf rs i = (v, e) := fun i v e h => by simp [resOf, List.getD_eq_getElem?_getD, h]
  have hdst : ∀ i o, ops[i]? = some o → dstOf ops i = o.dst := fun i o h => by simp [dstOf, h]
  refine wp_region_inv' (fun L a w => ClosedL ops L ∧ ∃ β, OkB n G0 w0 (FL s.f ops rs L ops.length) β a w) hm hB ?_ ?_ ?_
  · refine ⟨fun i k hi => by simp at hi, β, ?_⟩
    have e : FL s.f ops rs (fun _ => false) ops.length = s.f := by
      have : ∀ m, FL s.f ops rs (fun _ => false) m = s.f := by
        intro m
        induction m with
        | zero => rfl
        | succ m ih => simp [FL, ih]
      exact this _
    rw [e]
    exact h.still (below_drewN (Below.refl _ _) 1)
  · rintro i o L a1 W hi ho hLi hw ⟨hcl, β1, hJ⟩ K hK
    obtain ⟨o', want, v, e, h1, h2, h3, h4, h5⟩ := hget i hi
    have ho' : ops[i]? = some o := by rw [nthOp_eq] at ho; simpa using ho
    rw [h1] at ho'
    cases ho'
    have hw' : ∀ j, j ∈ Wa ops i → L j = true := fun j hj => hw j (by simpa using hj)
    -- who clashes with i
    have hord2 : ∀ k ok rk, ops[k]? = some ok → rs[k]? = some rk → k ≠ i → clash (footOf ops o (v, e)) (footOf ops ok rk) = true → (L k = true ↔ k < i) := by
      intro k ok rk hk hrk hne hc
      rcases Nat.lt_or_gt_of_ne hne with hlt | hgt
      · exact ⟨fun _ => hlt, fun _ => ready_anc hcl hw' (clash_anc hlen hord h1 hk h2 hrk hlt hc)⟩
      · refine ⟨fun hLk => ?_, fun hlt => by omega⟩
        have := closed_anc hcl (clash_anc hlen hord hk h1 hrk h2 hgt (by rw [clash_symm]; exact hc)) hLk
        rw [hLi] at this
        cases this
    have hrk : ∀ k ok, ops[k]? = some ok → ∃ rk, rs[k]? = some rk := fun k ok hk => by
      have : k < rs.length := by rw [hlen]; exact (List.getElem?_eq_some_iff.1 hk).1
      exact ⟨rs[k], List.getElem?_eq_getElem this⟩
    have hok : ∀ k, k < ops.length → ∃ ok rk, ops[k]? = some ok ∧ rs[k]? = some rk := fun k hk => by
      obtain ⟨rk, hr⟩ := hrk k ops[k] (List.getElem?_eq_getElem hk)
      exact ⟨_, rk, List.getElem?_eq_getElem hk, hr⟩
    -- writers of i's slots and box
    have wt : ∀ t, (t ∈ gSlot ops o ++ slotsOf o ∨ o.dst = some t) → ∀ k, k < ops.length → k ≠ i → dstOf ops k = some t → (L k = true ↔ k < i) := by
      intro t ht k hk hne hd
      obtain ⟨ok, rk, hk1, hk2⟩ := hok k hk
      rw [hdst k ok hk1] at hd
      refine hord2 k ok rk hk1 hk2 hne ?_
      rcases ht with ht | ht
      · have : hits ok.dst (gSlot ops o ++ slotsOf o) = true := by rw [hd]; exact memB_iff.2 ht
        simp [clash, footOf, this]
      · have : sameO o.dst ok.dst = true := by rw [hd, ht]; exact Nat.beq_refl _
        simp [clash, footOf, this]
    have wb : ∀ j, e.box = some j → ∀ k, k < ops.length → k ≠ i → (resOf rs k).2.out = some j → (L k = true ↔ k < i) := by
      intro j hj k hk hne hd
      obtain ⟨ok, rk, hk1, hk2⟩ := hok k hk
      rw [hres k rk.1 rk.2 hk2] at hd
      refine hord2 k ok rk hk1 hk2 hne ?_
      have : sameO rk.2.out e.box = true := by rw [hd, hj]; exact Nat.beq_refl _
      simp [clash, footOf, this]
    have hid : ∀ j, isAl e j → ∀ k, k < ops.length → k ≠ i → isAl (resOf rs k).2 j → False := by
      intro j hj k hk hne hk2
      obtain ⟨ok, rk, hk1, hk2'⟩ := hok k hk
      obtain ⟨o2, want2, v2, e2, g1, g2, g3, g4, g5⟩ := hget k hk
      have hek : isAl e2 j := by rw [hres k v2 e2 g2] at hk2; exact hk2
      rcases Nat.lt_or_gt_of_ne hne with hlt | hgt
      · obtain ⟨t, cs, rfl⟩ := hj
        refine h5.alloc ((FL_us i).2 (.inr ⟨k, hlt, rfl, ?_⟩))
        rw [hres k v2 e2 g2]; exact hek
      · obtain ⟨t, cs, rfl⟩ := hek
        refine g5.alloc ((FL_us k).2 (.inr ⟨i, hgt, rfl, ?_⟩))
        rw [hres i v e h2]; exact hj
    have htm : ∀ t, t ∈ gSlot ops o ++ slotsOf o → (FL s.f ops rs L ops.length).tm t = (FL s.f ops rs allL i).tm t := by
      intro t ht
      refine FL_tm_prefix _ (fun k hk hd => ?_) (by omega)
      by_cases e1 : k = i
      · subst e1; rw [hLi]; simp
      · exact wt t (.inl ht) k hk e1 hd
    have hgr : GOk ops (FL s.f ops rs L ops.length).tm o.guard want := h3.frame (F' := FL s.f ops rs L ops.length) fun t ht => htm t (List.mem_append.2 (.inl ht))
    have hfr : Does P (FL s.f ops rs L ops.length) o want v e := by
      refine h5.frame (fun t ht => htm t (List.mem_append.2 (.inr ht))) (fun j hj hna => ?_) (fun j hj hus => ?_)
      · refine FL_bx_prefix _ (fun k hk hd => ?_) (by omega)
        by_cases e1 : k = i
        · subst e1; rw [hLi]; simp
        · exact wb j hj k hk e1 hd
      · rcases (FL_us _).1 hus with h | ⟨k, hk, hLk, hk2⟩
        · obtain ⟨t, cs, rfl⟩ := hj
          exact h5.alloc ((FL_us i).2 (.inl h))
        · refine hid j hj k hk (fun e1 => ?_) hk2
          subst e1; rw [hLi] at hLk; cases hLk
    -- the next state
    have hnext : (FL s.f ops rs L ops.length).next o.dst v e = FL s.f ops rs (upd L i) ops.length := by
      refine FSt.ext' (fun t => ?_) (fun j => ?_) (fun j => ?_)
      · by_cases hd : o.dst = some t
        · have e1 : (FL s.f ops rs (upd L i) ops.length).tm t = (FL s.f ops rs allL (i + 1)).tm t := by
            refine FL_tm_prefix _ (fun k hk hdk => ?_) (by omega)
            by_cases e1 : k = i
            · subst e1; simp [upd_self]
            · rw [upd_ne e1, wt t (.inr hd) k hk e1 hdk]; omega
          rw [e1]
          simp only [FL, allL, if_true, hdst i o h1, hres i v e h2, FSt.next, hd]
        · rw [next_tm hd]
          refine FL_tm_congr _ fun k hk hdk => ?_
          have e1 : k ≠ i := fun e1 => hd (by subst e1; rw [hdst k o h1] at hdk; exact hdk)
          rw [upd_ne e1]
      · by_cases hd : e.out = some j
        · have e1 : (FL s.f ops rs (upd L i) ops.length).bx j = (FL s.f ops rs allL (i + 1)).bx j := by
            refine FL_bx_prefix _ (fun k hk hdk => ?_) (by omega)
            by_cases e1 : k = i
            · subst e1; simp [upd_self]
            · rw [upd_ne e1, wb j (Eff.out_box hd) k hk e1 hdk]; omega
          have e2 : (FL s.f ops rs L ops.length).bx j = (FL s.f ops rs allL i).bx j := by
            refine FL_bx_prefix _ (fun k hk hdk => ?_) (by omega)
            by_cases e1 : k = i
            · subst e1; rw [hLi]; simp
            · exact wb j (Eff.out_box hd) k hk e1 hdk
          rw [e1]
          simp only [FL, allL, if_true, hdst i o h1, hres i v e h2]
          exact next_bx_congr e2
        · rw [next_bx hd]
          refine FL_bx_congr _ fun k hk hdk => ?_
          have e1 : k ≠ i := fun e1 => hd (by subst e1; rw [hres k v e h2] at hdk; exact hdk)
          rw [upd_ne e1]
      · rw [next_us, FL_us, FL_us]
        constructor
        · rintro (h | h | ⟨k, hk, hLk, hk2⟩)
          · exact .inr ⟨i, hi, upd_self _ _, by rw [hres i v e h2]; exact h⟩
          · exact .inl h
          · exact .inr ⟨k, hk, by unfold upd; split <;> first | rfl | exact hLk, hk2⟩
        · rintro (h | ⟨k, hk, hLk, hk2⟩)
          · exact .inr (.inl h)
          · by_cases e1 : k = i
            · subst e1; rw [hres k v e h2] at hk2; exact .inl hk2
            · rw [upd_ne e1] at hLk; exact .inr (.inr ⟨k, hk, hLk, hk2⟩)
    rw [wanted_of hJ hgr]
    refine hJ.does h4 hfr fun β' a' w' h' => hK a' w' ⟨fun x y hx hy => ?_, β', by rw [← hnext]; exact h'⟩
    by_cases e1 : x = i
    · subst e1
      have := hw' y hy
      unfold upd; split <;> first | rfl | exact this
    · rw [upd_ne e1] at hx
      have := hcl x y hx hy
      unfold upd; split <;> first | rfl | exact this
  · rintro L a1 W hall ⟨hcl, β1, hJ⟩
    refine hQ a1 W ⟨β1, ?_⟩
    rw [lex_end hl]
    have e : FL s.f ops rs L ops.length = FL s.f ops rs allL ops.length := by
      refine FSt.ext' (fun t => FL_tm_congr _ fun k hk _ => hall k hk) (fun j => FL_bx_congr _ fun k hk _ => hall k hk) (fun j => ?_)
      rw [FL_us, FL_us]
      constructor
      · rintro (h | ⟨k, hk, _, h⟩)
        · exact .inl h
        · exact .inr ⟨k, hk, rfl, h⟩
      · rintro (h | ⟨k, hk, _, h⟩)
        · exact .inl h
        · exact .inr ⟨k, hk, hall k hk, h⟩
    rw [← e]
    exact hJ
end
end Go.Proofs.YtonbhpadoplpkaaGreat
/- An abstract machine: code, functions. -/
namespace Go.Proofs.YtonbhpadoplpkaaGreat
open Go.RowKit Go.Deep
section
variable {P : Program} {n : Nat} {G0 : Nat → Prop} {w0 : World}
/-! ### regions, step by step -/
theorem OpOk.unguard {F : FSt} {d : Option Nat} {op : Op} {ty : TypeId} {pos : String} {aft : Array Edge} {g : Option (Nat × Bool)} {v : AR} {e : Eff} (h : OpOk P F ⟨d, op, ty, pos, aft, none⟩ v e) : OpOk P F ⟨d, op, ty, pos, aft, g⟩ v e := by
  cases h with
  | quiet v h => exact .quiet v h
  | load ty x j off m row t bs cs ho hx hbb hr hty => exact .load ty x j off m row t bs cs ho hx hbb hr hty
  | alloc ty id zs ho hz hid => exact .alloc ty id zs ho hz hid
  | box ty x id row cs ho hx hone hk hid => exact .box ty x id row cs ho hx hone hk hid
  | store ty x y j off m row t bs cs r ho hx hbb hy hn hr hk hty => exact .store ty x y j off m row t bs cs r ho hx hbb hy hn hr hk hty
  | call f xs ats ars res ho ha hc => exact .call f xs ats ars v ho ha hc
def AW (P : Program) (n : Nat) (all : List Oper) (draw : Bool) (acc : List (AR × Eff)) (s : ASt) (ops : List Oper) (K : ASt → Prop) : Prop :=
  ∃ rs s', Lex P n all s ops rs s' ∧ (draw = true → ordB all (acc.reverse ++ rs) = true) ∧ K s'
section
variable {all ops : List Oper} {draw : Bool} {acc : List (AR × Eff)} {s : ASt} {tm : List (Nat × AR)} {bx : List (Nat × TypeId × List AC)} {nb : Nat} {K : ASt → Prop}
theorem AW_nil (h : draw = true → ordB all acc.reverse = true) (hK : K s) : AW P n all draw acc s [] K := ⟨[], s, .nil s, by simpa using h, hK⟩
theorem AW_does {o : Oper} {want : Bool} {v : AR} {e : Eff} {s1 : ASt} (hg : GOk all s.f.tm o.guard want) (hd : ∀ d, o.dst = some d → d < n) (ho : Does P s.f o want v e) (hn : Nx s o.dst v e s1) (h : AW P n all draw ((v, e) :: acc) s1 ops K) : AW P n all draw acc s (o :: ops) K := by
  obtain ⟨rs, s', h1, h2, h3⟩ := h
  exact ⟨(v, e) :: rs, s', .cons s s1 s' o ops want v e rs hg hd ho hn h1, by simpa using h2, h3⟩
theorem AW_cons {o : Oper} {v : AR} {e : Eff} {s1 : ASt} (hg : o.guard = none) (hd : ∀ d, o.dst = some d → d < n) (ho : OpOk P s.f o v e) (hn : Nx s o.dst v e s1) (h : AW P n all draw ((v, e) :: acc) s1 ops K) : AW P n all draw acc s (o :: ops) K := by
  exact AW_does (want := true) (by rw [hg]; exact .none) hd (.inl ⟨rfl, ho⟩) hn h
/-- A guarded operation that is let be. -/
theorem AW_skip {d j gd : Nat} {b t : Bool} {op : Op} {ty : TypeId} {pos : String} {aft : Array Edge} (hgd : dstIn all j = some gd) (ht : look tm gd = some (.val (.one (.b t)))) (hb : (t == b) = false) (hd : Nat.blt d n = true)
    (h : AW P n all draw ((.val (.one .any), .no) :: acc) ⟨(d, .val (.one .any)) :: tm, bx, nb⟩ ops K) : AW P n all draw acc ⟨tm, bx, nb⟩ (⟨some d, op, ty, pos, aft, some (j, b)⟩ :: ops) K :=
  AW_does (want := false) (.some j b gd t false hgd ht hb.symm) (fun d' e => by cases e; simpa [Nat.blt_eq] using hd) (.inr ⟨rfl, rfl, rfl⟩) (.no _ rfl) h
theorem AW_quiet {d : Nat} {op : Op} {ty : TypeId} {pos : String} {aft : Array Edge} {v : AR} (hd : Nat.blt d n = true) (hq : Quiet P ⟨some d, op, ty, pos, aft, none⟩ (ASt.ev ⟨tm, bx, nb⟩) v)
    (h : AW P n all draw ((v, .no) :: acc) ⟨(d, v) :: tm, bx, nb⟩ ops K) : AW P n all draw acc ⟨tm, bx, nb⟩ (⟨some d, op, ty, pos, aft, none⟩ :: ops) K :=
  AW_cons rfl (fun d' e => by cases e; simpa [Nat.blt_eq] using hd) (.quiet v hq) (.no _ rfl) h
theorem AW_load {d j off m : Nat} {lt : TypeId} {x : Operand} {ty : TypeId} {pos : String} {aft : Array Edge} {row : Bool} {t : TypeId} {bs cs : List AC} {v : AV} (hd : Nat.blt d n = true) (hty : TyI P lt m row)
    (hx : ASt.ev ⟨tm, bx, nb⟩ x = some (.val (.one (.ptr j off)))) (hb : look bx j = some (t, bs)) (hr : rdO bs off m = some cs) (hv : mkAV row cs = v)
    (h : AW P n all draw ((.val v, .rd j) :: acc) ⟨(d, .val v) :: tm, bx, nb⟩ ops K) : AW P n all draw acc ⟨tm, bx, nb⟩ (⟨some d, .load lt x, ty, pos, aft, none⟩ :: ops) K := by
  subst hv
  exact AW_cons rfl (fun d' e => by cases e; simpa [Nat.blt_eq] using hd) (.load lt x j off m row t bs cs rfl hx hb hr hty) (.rd j _ rfl) h
theorem AW_alloc {d : Nat} {et ty : TypeId} {pos : String} {aft : Array Edge} {zs : List AC} (hd : Nat.blt d n = true) (hz : TyZ P et zs)
    (h : AW P n all draw ((.val (.one (.ptr nb 0)), .al nb et zs) :: acc) ⟨(d, .val (.one (.ptr nb 0))) :: tm, (nb, et, zs) :: bx, nb + 1⟩ ops K) : AW P n all draw acc ⟨tm, bx, nb⟩ (⟨some d, .alloc et, ty, pos, aft, none⟩ :: ops) K :=
  AW_cons rfl (fun d' e => by cases e; simpa [Nat.blt_eq] using hd) (.alloc et nb zs rfl hz (Nat.lt_irrefl nb)) (.al et zs _ rfl) h
theorem AW_box {d : Nat} {et ty : TypeId} {x : Operand} {pos : String} {aft : Array Edge} {row : Bool} {cs : List AC} {v : AV} (hd : Nat.blt d n = true) (hx : ASt.ev ⟨tm, bx, nb⟩ x = some (.val v)) (hv : v = mkAV row cs) (hone : row = false → cs.length = 1) (hk : cs.all AC.keepable = true)
    (h : AW P n all draw ((.val (.one (.ptr nb 0)), .al nb et cs) :: acc) ⟨(d, .val (.one (.ptr nb 0))) :: tm, (nb, et, cs) :: bx, nb + 1⟩ ops K) : AW P n all draw acc ⟨tm, bx, nb⟩ (⟨some d, .box et x, ty, pos, aft, none⟩ :: ops) K := by
  subst hv
  exact AW_cons rfl (fun d' e => by cases e; simpa [Nat.blt_eq] using hd) (.box et x nb row cs rfl hx hone hk (Nat.lt_irrefl nb)) (.al et cs _ rfl) h
theorem AW_store {j off m : Nat} {st : TypeId} {x y : Operand} {ty : TypeId} {pos : String} {aft : Array Edge} {row : Bool} {t : TypeId} {bs cs r : List AC} {v : AV} (hty : TyI P st m row)
    (hx : ASt.ev ⟨tm, bx, nb⟩ x = some (.val (.one (.ptr j off)))) (hb : look bx j = some (t, bs)) (hy : ASt.ev ⟨tm, bx, nb⟩ y = some (.val v)) (hv : v = mkAV row cs) (hn : cs.length = m) (hr : layO bs off cs = some r) (hk : cs.all AC.keepable = true)
    (h : AW P n all draw ((.val (.one .any), .wr j off cs) :: acc) ⟨tm, (j, t, r) :: bx, nb⟩ ops K) : AW P n all draw acc ⟨tm, bx, nb⟩ (⟨none, .store st x y, ty, pos, aft, none⟩ :: ops) K := by
  subst hv
  exact AW_cons rfl (fun d' e => by cases e) (.store st x y j off m row t bs cs r rfl hx hb hy hn hr hk hty) (.wr j off t bs cs r _ rfl hb hr) h
theorem AW_call {d : Nat} {f : FuncId} {xs : Array Operand} {ats : Array TypeId} {ty : TypeId} {pos : String} {aft : Array Edge} {ars : List AR} {res : AR} (hd : Nat.blt d n = true)
    (ha : evs (ASt.ev ⟨tm, bx, nb⟩) xs.toList = some ars) (hc : Ct P f ars res) (h : AW P n all draw ((res, .no) :: acc) ⟨(d, res) :: tm, bx, nb⟩ ops K) :
    AW P n all draw acc ⟨tm, bx, nb⟩ (⟨some d, .call { callee := .value (.func f), args := xs, argTypes := ats }, ty, pos, aft, none⟩ :: ops) K :=
  AW_cons rfl (fun d' e => by cases e; simpa [Nat.blt_eq] using hd) (.call f xs ats ars res rfl ha hc) (.no _ rfl) h
/-- Guarded operations that are done. -/
theorem AW_gdo {d j gd : Nat} {b t : Bool} {op : Op} {ty : TypeId} {pos : String} {aft : Array Edge} {v : AR} {e : Eff} {s1 : ASt} (hgd : dstIn all j = some gd) (ht : look tm gd = some (.val (.one (.b t)))) (hb : (t == b) = true)
    (hd : Nat.blt d n = true) (ho : OpOk P (ASt.f ⟨tm, bx, nb⟩) ⟨some d, op, ty, pos, aft, none⟩ v e) (hn : Nx ⟨tm, bx, nb⟩ (some d) v e s1) (hk : AW P n all draw ((v, e) :: acc) s1 ops K) : AW P n all draw acc ⟨tm, bx, nb⟩ (⟨some d, op, ty, pos, aft, some (j, b)⟩ :: ops) K :=
  AW_does (o := ⟨some d, op, ty, pos, aft, some (j, b)⟩) (want := true) (GOk.some (tm := (ASt.f ⟨tm, bx, nb⟩).tm) j b gd t true hgd ht hb.symm) (fun d' e => by cases e; simpa [Nat.blt_eq] using hd) (.inl ⟨rfl, ho.unguard⟩) hn hk
theorem AW_quietg {d j gd : Nat} {b t : Bool} {op : Op} {ty : TypeId} {pos : String} {aft : Array Edge} {v : AR} (hgd : dstIn all j = some gd) (ht : look tm gd = some (.val (.one (.b t)))) (hb : (t == b) = true) (hd : Nat.blt d n = true)
    (hq : Quiet P ⟨some d, op, ty, pos, aft, none⟩ (ASt.ev ⟨tm, bx, nb⟩) v) (h : AW P n all draw ((v, .no) :: acc) ⟨(d, v) :: tm, bx, nb⟩ ops K) : AW P n all draw acc ⟨tm, bx, nb⟩ (⟨some d, op, ty, pos, aft, some (j, b)⟩ :: ops) K :=
  AW_gdo hgd ht hb hd (.quiet v hq) (.no _ rfl) h
theorem AW_loadg {d j' gd : Nat} {b t' : Bool} {j off m : Nat} {lt : TypeId} {x : Operand} {ty : TypeId} {pos : String} {aft : Array Edge} {row : Bool} {t : TypeId} {bs cs : List AC} {v : AV} (hgd : dstIn all j' = some gd) (ht : look tm gd = some (.val (.one (.b t')))) (hb' : (t' == b) = true) (hd : Nat.blt d n = true) (hty : TyI P lt m row)
    (hx : ASt.ev ⟨tm, bx, nb⟩ x = some (.val (.one (.ptr j off)))) (hb : look bx j = some (t, bs)) (hr : rdO bs off m = some cs) (hv : mkAV row cs = v)
    (h : AW P n all draw ((.val v, .rd j) :: acc) ⟨(d, .val v) :: tm, bx, nb⟩ ops K) : AW P n all draw acc ⟨tm, bx, nb⟩ (⟨some d, .load lt x, ty, pos, aft, some (j', b)⟩ :: ops) K := by
  subst hv
  exact AW_gdo hgd ht hb' hd (.load lt x j off m row t bs cs rfl hx hb hr hty) (.rd j _ rfl) h
theorem AW_callg {d j gd : Nat} {b t : Bool} {f : FuncId} {xs : Array Operand} {ats : Array TypeId} {ty : TypeId} {pos : String} {aft : Array Edge} {ars : List AR} {res : AR} (hgd : dstIn all j = some gd) (ht : look tm gd = some (.val (.one (.b t)))) (hb : (t == b) = true) (hd : Nat.blt d n = true)
    (ha : evs (ASt.ev ⟨tm, bx, nb⟩) xs.toList = some ars) (hc : Ct P f ars res) (h : AW P n all draw ((res, .no) :: acc) ⟨(d, res) :: tm, bx, nb⟩ ops K) :
    AW P n all draw acc ⟨tm, bx, nb⟩ (⟨some d, .call { callee := .value (.func f), args := xs, argTypes := ats }, ty, pos, aft, some (j, b)⟩ :: ops) K :=
  AW_gdo hgd ht hb hd (.call f xs ats ars res rfl ha hc) (.no _ rfl) h
end
/-! ### code -/
def Wp (P : Program) (n : Nat) (G0 : Nat → Prop) (w0 : World) (s : ASt) (c : Code) (Q : Exit → ASt → Prop) : Prop :=
  ∀ a w, Ok n G0 w0 s a w → c.wp P (fun e a w => ∃ s', Ok n G0 w0 s' a w ∧ Q e s') a w
def AThen (K : ASt → Prop) (Q : Exit → ASt → Prop) : Exit → ASt → Prop
  | .normal, s => K s
  | e, s => Q e s
def ABlk (id : Nat) (Q : Exit → ASt → Prop) : Exit → ASt → Prop
  | .exit i, s => bif Nat.beq i id then Q .normal s else Q (.exit i) s
  | e, s => Q e s
def Le (s s' : ASt) : Prop := ∀ (n : Nat) (G0 : Nat → Prop) (w0 : World) (a : Act) (w : World), Ok n G0 w0 s a w → Ok n G0 w0 s' a w
section
variable {s : ASt} {Q : Exit → ASt → Prop}
theorem Wp_seq {x y : Code} (h : Wp P n G0 w0 s x (AThen (fun s' => Wp P n G0 w0 s' y Q) Q)) : Wp P n G0 w0 s (.seq x y) Q := by
  intro a w hs
  refine wp_seq (wp_mono (h a w hs) ?_)
  rintro e a' w' ⟨s', h1, h2⟩
  cases e with
  | normal => exact h2 a' w' h1
  | exit id => exact ⟨s', h1, h2⟩
  | goto l => exact ⟨s', h1, h2⟩
  | ret => exact ⟨s', h1, h2⟩
  | panic ch => exact ⟨s', h1, h2⟩
  | outgrown => exact ⟨s', h1, h2⟩
theorem Wp_skip (h : Q .normal s) : Wp P n G0 w0 s .skip Q := fun _ _ hs => wp_skip ⟨s, hs, h⟩
theorem Wp_exit {id : Nat} (h : Q (.exit id) s) : Wp P n G0 w0 s (.exit id) Q := fun _ _ hs => wp_exit ⟨s, hs, h⟩
theorem Wp_ret (h : Q .ret s) : Wp P n G0 w0 s .ret Q := fun _ _ hs => wp_ret ⟨s, hs, h⟩
theorem Wp_block {id : Nat} {c : Code} (h : Wp P n G0 w0 s c (ABlk id Q)) : Wp P n G0 w0 s (.block id c) Q := by
  intro a w hs
  refine wp_block (wp_mono (h a w hs) ?_)
  rintro e a' w' ⟨s', h1, h2⟩
  cases e with
  | exit i =>
    simp only [Exit.inBlock, ABlk] at h2 ⊢
    by_cases e : i = id
    · subst e
      rw [if_pos rfl]
      simp at h2
      exact ⟨s', h1, h2⟩
    · rw [if_neg e]
      have : Nat.beq i id = false := by rw [Bool.eq_false_iff]; exact fun h => e (Nat.eq_of_beq_eq_true h)
      rw [this] at h2
      exact ⟨s', h1, h2⟩
  | normal => exact ⟨s', h1, h2⟩
  | goto l => exact ⟨s', h1, h2⟩
  | ret => exact ⟨s', h1, h2⟩
  | panic ch => exact ⟨s', h1, h2⟩
  | outgrown => exact ⟨s', h1, h2⟩
theorem Wp_cond {c : Operand} {x y : Code} {t : Bool} (hc : s.ev c = some (.val (.one (.b t)))) (h1 : t = true → Wp P n G0 w0 s x Q) (h2 : t = false → Wp P n G0 w0 s y Q) : Wp P n G0 w0 s (.cond c x y) Q := by
  intro a w hs
  obtain ⟨β, hb⟩ := hs
  have he := (hb.ev hc).2
  simp only [AR.ok, AV.ok, AC.ok] at he
  exact wp_cond_split he (fun e => h1 e a w ⟨β, hb⟩) (fun e => h2 e a w ⟨β, hb⟩)
theorem Wp_condT {c : Operand} {x y : Code} (hc : s.ev c = some (.val (.one (.b true)))) (h1 : Wp P n G0 w0 s x Q) : Wp P n G0 w0 s (.cond c x y) Q := Wp_cond hc (fun _ => h1) (fun h => by cases h)
theorem Wp_condF {c : Operand} {x y : Code} (hc : s.ev c = some (.val (.one (.b false)))) (h1 : Wp P n G0 w0 s y Q) : Wp P n G0 w0 s (.cond c x y) Q := Wp_cond hc (fun h => by cases h) (fun _ => h1)
theorem Wp_region {id : Nat} {ops : List Oper} {draw : Bool} (hm : P.follows .mixedOrders = true) (h : AW P n ops draw [] s ops (fun s' => Q .normal s')) : Wp P n G0 w0 s (.region id ops.toArray draw) Q := by
  obtain ⟨rs, s', h1, h2, h3⟩ := h
  intro a w hs
  cases draw with
  | false => exact wp_region_lit (wpList_lex h1 (fun a w h => ⟨s', h, h3⟩) a w hs)
  | true => exact region_any hm h1 (by simpa using h2 rfl) (fun a w h => ⟨s', h, h3⟩) a w hs
theorem Wp_le {s' : ASt} {c : Code} (hl : Le s s') (h : Wp P n G0 w0 s' c Q) : Wp P n G0 w0 s c Q := fun a w hs => h a w (hl _ _ _ _ _ hs)
theorem Wp_mono {c : Code} {Q' : Exit → ASt → Prop} (h : Wp P n G0 w0 s c Q') (hq : ∀ e s', Q' e s' → Q e s') : Wp P n G0 w0 s c Q := fun a w hs =>
  wp_mono (h a w hs) fun e _ _ ⟨s', h1, h2⟩ => ⟨s', h1, hq e s' h2⟩
theorem Wp_to {K : ASt → Prop} {c : Code} (J : ASt → Prop) (h1 : Wp P n G0 w0 s c (AThen J Q)) (h2 : ∀ s', J s' → K s') : Wp P n G0 w0 s c (AThen K Q) :=
  Wp_mono h1 fun e s' h => by cases e <;> first | exact h2 s' h | exact h
theorem Wp_loop {α : Type} {c : Code} (I : α → ASt) (pre : α → Prop) (μ : α → Nat) (x0 : α) (hp : pre x0) (h0 : Le s (I x0))
    (round : ∀ x, pre x → Wp P n G0 w0 (I x) c (AThen (fun s' => ∃ y, pre y ∧ Le s' (I y) ∧ μ y < μ x) Q)) : Wp P n G0 w0 s (.loop c) Q := by
  intro a w hs
  refine wp_loop_ghost (fun k a w => ∃ x, pre x ∧ μ x = k ∧ Ok n G0 w0 (I x) a w) (μ x0) ⟨x0, hp, rfl, h0 _ _ _ _ _ hs⟩ ?_
  rintro k a w ⟨x, hx, rfl, hok⟩
  refine wp_mono (round x hx a w hok) ?_
  rintro e a' w' ⟨s', h1, h2⟩
  cases e with
  | normal =>
    obtain ⟨y, hy, hle, hlt⟩ := h2
    exact ⟨μ y, hlt, y, hy, rfl, hle _ _ _ _ _ h1⟩
  | exit id => exact ⟨s', h1, h2⟩
  | goto l => exact ⟨s', h1, h2⟩
  | ret => exact ⟨s', h1, h2⟩
  | panic ch => exact ⟨s', h1, h2⟩
  | outgrown => exact ⟨s', h1, h2⟩
end
/-! ### knowing less -/
def LeT {α : Type} (tm : List (Nat × α)) : List (Nat × α) → Prop
  | [] => True
  | (t, r) :: rest => look tm t = some r ∧ LeT tm rest
def AC.lowB (nb : Nat) : AC → Bool
  | .ptr j _ => Nat.blt j nb
  | _ => true
def AV.lowB (nb : Nat) : AV → Bool
  | .one c => c.lowB nb
  | .agg cs => cs.all (AC.lowB nb)
def AR.lowB (nb : Nat) : AR → Bool
  | .val x => x.lowB nb
  | .tup l => l.all (AV.lowB nb)
def ASt.lowB (s : ASt) : Bool := (s.tm.all fun p => p.2.lowB s.nb) && s.bx.all fun p => Nat.blt p.1 s.nb && p.2.2.all (AC.lowB s.nb)
theorem AC.low_of {nb : Nat} {c : AC} (h : c.lowB nb = true) : c.low (fun j => j < nb) := by
  cases c <;> first | trivial | (simpa [AC.lowB, AC.low, Nat.blt_eq] using h)
theorem AV.low_of {nb : Nat} {c : AV} (h : c.lowB nb = true) : c.low (fun j => j < nb) := by
  cases c with
  | one c => exact AC.low_of h
  | agg cs => exact fun c hc => AC.low_of (List.all_eq_true.1 h c hc)
theorem AR.low_of {nb : Nat} {c : AR} (h : c.lowB nb = true) : c.low (fun j => j < nb) := by
  cases c with
  | val c => exact AV.low_of h
  | tup cs => exact fun c hc => AV.low_of (List.all_eq_true.1 h c hc)
theorem look_mem {α : Type} {t : Nat} {r : α} : ∀ {l : List (Nat × α)}, look l t = some r → (t, r) ∈ l
  | [], h => by simp [look] at h
  | (k, v) :: l, h => by
    rw [look_cons] at h
    split at h
    · rename_i e; cases h; subst e; simp
    · exact List.mem_cons_of_mem _ (look_mem h)
theorem leT_get {α : Type} {tm : List (Nat × α)} : ∀ {l : List (Nat × α)}, LeT tm l → ∀ t r, look l t = some r → look tm t = some r
  | [], _, t, r, h => by simp [look] at h
  | (k, v) :: l, hl, t, r, h => by
    rw [look_cons] at h
    split at h
    · rename_i e; cases h; subst e; exact hl.1
    · exact leT_get hl.2 t r h
theorem le_of {s s' : ASt} (ht : LeT s.tm s'.tm) (hb : LeT s.bx s'.bx) (hl : s'.lowB = true) : Le s s' := by
  rintro n G0 w0 a w ⟨β, h⟩
  simp only [ASt.lowB, Bool.and_eq_true] at hl
  have hsub : ∀ j, (look s'.bx j).isSome = true → (look s.bx j).isSome = true := by
    intro j hj
    obtain ⟨p, hp⟩ := Option.isSome_iff_exists.1 hj
    rw [leT_get hb j p hp]; rfl
  have hG : ∀ g, Gs G0 s'.f.bx β g → Gs G0 s.f.bx β g ∨ w.heap.size ≤ g := by
    rintro g (hg | ⟨j, hj, e⟩)
    · exact .inl (.inl hg)
    · exact .inl (.inr ⟨j, hsub j hj, e⟩)
  have hm : Mv (Gs G0 s'.f.bx β) w w := Mv.refl _ _
  refine ⟨β, h.size, h.defers, fun t r htr => ?_, fun j t cs hj => ?_, fun j j' hj hj' => h.inj j j' (hsub j hj) (hsub j' hj'), fun j hj => ⟨(h.new j (hsub j hj)).1, ?_⟩, h.since, h.low⟩
  · obtain ⟨h1, h2⟩ := h.tms t r (leT_get ht t r htr)
    exact ⟨AR.low_of (List.all_eq_true.1 hl.1 _ (look_mem htr)), AR.ok_step (U := s.f.us) (fun _ _ => rfl) hG hm h1 h2⟩
  · obtain ⟨h1, vs, h2, h3, h4⟩ := h.bxs j t cs (leT_get hb j (t, cs) hj)
    have h5 := List.all_eq_true.1 hl.2 _ (look_mem hj)
    simp only [Bool.and_eq_true] at h5
    exact ⟨fun c hc => AC.low_of (List.all_eq_true.1 h5.2 c hc), vs, h2, h3, oks_step (U := s.f.us) (fun _ _ => rfl) hG hm h1 h4⟩
  · obtain ⟨p, hp⟩ := Option.isSome_iff_exists.1 hj
    have h5 := List.all_eq_true.1 hl.2 _ (look_mem hp)
    simp only [Bool.and_eq_true] at h5
    have h6 : j < s'.nb := by simpa [Nat.blt_eq] using h5.1
    exact h6
/-! ### functions -/
/-- What is handed back. -/
inductive RVs (P : Program) (s : ASt) : List ResultVar → List AV → Prop
  | nil : RVs P s [] []
  | tmp (t : Nat) (x : AV) (rs : List ResultVar) (xs : List AV) (h : look s.tm t = some (.val x)) (hr : RVs P s rs xs) : RVs P s (.tmp t :: rs) (x :: xs)
  | cell (t : Nat) (ty : TypeId) (j off m : Nat) (row : Bool) (bt : TypeId) (bs cs : List AC) (rs : List ResultVar) (xs : List AV) (hty : TyI P ty m row) (h : look s.tm t = some (.val (.one (.ptr j off)))) (hb : look s.bx j = some (bt, bs)) (hc : rdO bs off m = some cs)
      (hr : RVs P s rs xs) : RVs P s (.cell t ty :: rs) (mkAV row cs :: xs)
def resAR : List AV → AR
  | [x] => .val x
  | xs => .tup xs
def Ret (P : Program) (rv : List ResultVar) (res : AR) (e : Exit) (s : ASt) : Prop := (e = .normal ∨ e = .ret) ∧ ∃ xs, RVs P s rv xs ∧ res = resAR xs
theorem rvs_run {s : ASt} {rv : List ResultVar} {xs : List AV} {a : Act} (f : ResultVar → Sem Value) (hf1 : ∀ t, f (.tmp t) = pure (a.tmps.getD t undef)) (hf2 : ∀ p ty, f (.cell p ty) = (do loadVar ty (← asAddr (a.tmps.getD p undef)))) (h : RVs P s rv xs) {β : Nat → Nat} {w : World} (hs : OkB n G0 w0 s.f β a w) :
    ∃ vs, (rv.mapM f).run P w = .ok vs w ∧ oksV (Gs G0 s.f.bx β) β w xs vs := by
  induction h with
  | nil => exact ⟨[], by simp [List.mapM_nil, Sem.run_pure], trivial⟩
  | tmp t x rs xs h hr ih =>
    obtain ⟨vs, h1, h2⟩ := ih
    refine ⟨a.tmps.getD t undef :: vs, ?_, (hs.tms t _ h).2, h2⟩
    rw [List.mapM_cons, Sem.run_bind, hf1, Sem.run_pure, Result.andThen_ok, Sem.run_bind, h1, Result.andThen_ok, Sem.run_pure]
  | cell t ty j off m row bt bs cs rs xs hty h hb hc hr ih =>
    obtain ⟨vs, h1, h2⟩ := ih
    have hx' := (hs.tms t _ h).2
    simp only [AR.ok, AV.ok, AC.ok] at hx'
    obtain ⟨hlow, us, hbox, hone, hok⟩ := hs.bxs j bt bs hb
    obtain ⟨r1, r2, r3⟩ := rdO_get hc
    have hlen := oks_len hok
    have hys : oks (Gs G0 s.f.bx β) β w cs ((us.drop off).take m) := by
      refine oks_of_get (by simp; omega) fun k c v hc hv => ?_
      have hk : k < m := by have := (List.getElem?_eq_some_iff.1 hc).1; omega
      rw [r3 k hk] at hc
      obtain ⟨u, hu, hcu⟩ := oks_get hok _ _ hc
      rw [List.getElem?_take, if_pos hk, List.getElem?_drop, hu] at hv
      cases hv
      exact hcu
    have hrange : w.rangeAt (β j) off ((us.drop off).take m) := by
      intro k v hv
      rw [List.getElem?_take] at hv
      split at hv
      · rw [List.getElem?_drop] at hv
        exact hbox.at _ hv
      · cases hv
    have hl := hty.load w (β j) off _ hrange (by simp; omega)
    refine ⟨mkVal row ((us.drop off).take m) :: vs, ?_, mkAV_ok hys (fun e => by have := hty.one e; simp; omega), h2⟩
    rw [List.mapM_cons, Sem.run_bind, hf2, Sem.run_bind, hx']
    simp only [asAddr, Sem.run_pure, Result.andThen_ok, hl]
    rw [Sem.run_bind, h1, Result.andThen_ok, Sem.run_pure]
def argTm : Nat → List AR → List (Nat × AR)
  | _, [] => []
  | k, r :: rs => (k, r) :: argTm (k + 1) rs
theorem argTm_look {G : Nat → Prop} {β : Nat → Nat} {w : World} : ∀ {args : List AR} {vals : List Value} {k t : Nat} {r : AR}, oksR G β w args vals → look (argTm k args) t = some r → r ∈ args ∧ k ≤ t ∧ r.ok G β w (vals.getD (t - k) undef)
  | [], _, _, _, _, _, h => by simp [argTm, look] at h
  | r :: rs, v :: vs, k, t, r', ho, h => by
    simp only [argTm] at h
    rw [look_cons] at h
    split at h
    · rename_i e; cases h; subst e; exact ⟨by simp, Nat.le_refl _, by simpa using ho.1⟩
    · obtain ⟨h1, h2, h3⟩ := argTm_look ho.2 h
      refine ⟨by simp [h1], by omega, ?_⟩
      rw [show t - k = (t - (k + 1)) + 1 by omega]
      simpa using h3
  | _ :: _, [], _, _, _, ho, _ => ho.elim
/-- **A function's contract**, from a walk of its code. -/
theorem ct_of_wp {f : FuncId} {fn : Func} {c : Code} {args : List AR} {res : AR} (rv : List ResultVar) (tm : List (Nat × AR)) (nt : Nat) (hf : P.funcs[f]? = some fn) (hname : (fn.name == "runtime.NumGoroutine") = false) (hb : fn.body = some c) (hrv : fn.results = rv.toArray)
    (hnt : fn.ntmps = nt) (hlen : Nat.ble args.length nt = true) (htm : argTm 0 args = tm) (hnop : args.all AR.nop = true) (hres : res.nop = true) (h : ∀ (G0 : Nat → Prop) (w0 : World), Wp P nt G0 w0 ⟨tm, [], 0⟩ c (Ret P rv res)) : Ct P f args res where
  enters := fun vals w => enters_of hf hname hb vals w
  nop := hres
  calls := by
    intro G β w vals hG hargs
    subst htm hnt
    have hvl := oksR_len hargs
    have hlen' : args.length ≤ fn.ntmps := Nat.le_of_ble_eq_true hlen
    have hnop' : ∀ r ∈ args, r.nop = true := fun r hr => List.all_eq_true.1 hnop r hr
    refine calls_of_wp hf hb (wp_mono (h G w _ w ⟨β, ?_⟩) ?_)
    · have hGe : ∀ g, Gs G (ASt.f ⟨argTm 0 args, [], 0⟩).bx β g → G g ∨ w.heap.size ≤ g := by
        rintro g (hg | ⟨j, hj, _⟩)
        · exact .inl hg
        · simp [ASt.f, look] at hj
      refine ⟨by simp; omega, rfl, fun t r ht => ?_, fun j t cs hj => by simp [ASt.f, look] at hj, fun j j' hj => by simp [ASt.f, look] at hj, fun j hj => by simp [ASt.f, look] at hj, Below.refl _ _, hG⟩
      obtain ⟨h1, h2, h3⟩ := argTm_look hargs ht
      refine ⟨AR.nop_low (hnop' r h1) _, ?_⟩
      have hta : t < vals.length := by
        rcases Nat.lt_or_ge t vals.length with h | h
        · exact h
        · exfalso
          have : ∀ (k : Nat) (ys : List AR), look (argTm k ys) t ≠ none → t < k + ys.length := by
            intro k ys
            induction ys generalizing k with
            | nil => intro h; simp [argTm, look] at h
            | cons a ys ih =>
              intro h
              simp only [argTm] at h
              rw [look_cons] at h
              split at h
              · simp; omega
              · have := ih (k + 1) h; simp; omega
          have := this 0 args (by have ht' : look (argTm 0 args) t = some r := ht; rw [ht']; simp)
          omega
      have e : (vals.toArray ++ Array.replicate (fn.ntmps - vals.toArray.size) undef).getD t undef = vals.getD (t - 0) undef := by
        simp only [Array.getD_eq_getD_getElem?, Nat.sub_zero, List.getD_eq_getElem?_getD]
        rw [Array.getElem?_append_left (by simpa using hta)]
        simp
      rw [e]
      exact AR.ok_step (U := fun _ => True) (fun _ _ => rfl) hGe (Mv.refl _ _) (AR.nop_low (hnop' r h1) _) h3
    · rintro e a' w' ⟨s', ⟨β', hok⟩, hq, xs, hrvs, hxs⟩
      obtain ⟨vs, h1, h2⟩ := rvs_run (a := a') (fun | .tmp t => pure (a'.tmps.getD t undef) | .cell p ty => do loadVar ty (← asAddr (a'.tmps.getD p undef))) (fun _ => rfl) (fun _ _ => rfl) hrvs hok
      have hrun : (results fn a'.tmps).run P w' = .ok (if h : vs.toArray.size = 1 then vs.toArray[0] else .tuple vs.toArray) w' := by
        unfold results
        rw [hrv, Array.mapM_eq_mapM_toList, Sem.run_bind]
        simp only [Sem.run_map]
        refine Eq.trans (congrArg (fun x => (x.andThen fun a w' => Result.ok a.toArray w').andThen fun a w' => Sem.run P (pure (if h : a.size = 1 then a[0] else Value.tuple a)) w') h1) ?_
        rfl
      have hback : ∀ (r : AR) (v : Value), r.nop = true → r.ok (Gs G s'.f.bx β') β' w' v → r.ok G β w' v := fun r v hn hv =>
        AR.ok_step (U := fun _ => False) (fun _ h => h.elim) (fun g hg => .inl (.inl hg)) (Mv.refl _ _) (AR.nop_low hn _) hv
      have hfin : ∃ v, (results fn a'.tmps).run P w' = .ok v w' ∧ res.ok G β w' v := by
        refine ⟨_, hrun, hback res _ hres ?_⟩
        rw [hxs]
        rcases xs with _ | ⟨x, _ | ⟨y, xs⟩⟩
        · rcases vs with _ | ⟨v, vs⟩
          · exact ⟨[], rfl, trivial⟩
          · exact h2.elim
        · rcases vs with _ | ⟨v, _ | ⟨u, vs⟩⟩
          · exact h2.elim
          · exact h2.1
          · exact h2.2.elim
        · rcases vs with _ | ⟨v, _ | ⟨u, vs⟩⟩
          · exact h2.elim
          · exact h2.2.elim
          · rw [dif_neg (by simp)]
            exact ⟨_, rfl, h2⟩
      obtain ⟨v, hv1, hv2⟩ := hfin
      rcases hq with rfl | rfl
      · exact ⟨hok.defers, v, hv1, v, rfl, hv2, hok.since⟩
      · exact ⟨hok.defers, v, hv1, v, rfl, hv2, hok.since⟩
end
end Go.Proofs.YtonbhpadoplpkaaGreat
/- An abstract machine: the operations that read, one by one. -/
namespace Go.Proofs.YtonbhpadoplpkaaGreat
open Go.RowKit Go.Deep
section
variable {P : Program} {d : Option Nat} {ty : TypeId} {pos : String} {aft : Array Edge} {ev : Operand → Option AR}
theorem q_of {o : Oper} {x : Operand} {r v : AR} (hx : ev x = some r) (hm : x ∈ o.op.operands.toList)
    (h : ∀ (G : Nat → Prop) (β : Nat → Nat) (w : World) (U : Nat → Prop) (ρ : Operand → Value), r.low U → r.ok G β w (ρ x) → ∃ val, (execOp ρ o).run P w = .ok (.value val) w ∧ v.ok G β w val ∧ v.low U) : Quiet P o ev v := by
  intro G β w U ρ _ hρ
  obtain ⟨h1, h2⟩ := hρ x r hm hx
  obtain ⟨val, h3, h4, h5⟩ := h G β w U ρ h1 h2
  exact ⟨val, w, h3, Below.refl _ _, h4, h5⟩
theorem q_of2 {o : Oper} {x y : Operand} {r s v : AR} (hx : ev x = some r) (hy : ev y = some s) (hm : x ∈ o.op.operands.toList) (hm2 : y ∈ o.op.operands.toList)
    (h : ∀ (G : Nat → Prop) (β : Nat → Nat) (w : World) (U : Nat → Prop) (ρ : Operand → Value), r.low U → r.ok G β w (ρ x) → s.low U → s.ok G β w (ρ y) → ∃ val, (execOp ρ o).run P w = .ok (.value val) w ∧ v.ok G β w val ∧ v.low U) : Quiet P o ev v := by
  intro G β w U ρ _ hρ
  obtain ⟨h1, h2⟩ := hρ x r hm hx
  obtain ⟨h3, h4⟩ := hρ y s hm2 hy
  obtain ⟨val, h5, h6, h7⟩ := h G β w U ρ h1 h2 h3 h4
  exact ⟨val, w, h5, Below.refl _ _, h6, h7⟩
theorem q_move {x : Operand} {v : AR} (hx : ev x = some v) : Quiet P ⟨d, .move x, ty, pos, aft, none⟩ ev v :=
  q_of hx (by simp [Op.operands]) fun _ _ _ _ ρ hl hk => ⟨ρ x, rfl, hk, hl⟩
theorem q_assign {x : Operand} {v : AR} (hx : ev x = some v) : Quiet P ⟨d, .assign x, ty, pos, aft, none⟩ ev v :=
  q_of hx (by simp [Op.operands]) fun _ _ _ _ ρ hl hk => ⟨ρ x, rfl, hk, hl⟩
theorem q_extract {x : Operand} {l : List AV} {i : Nat} {v : AV} (hx : ev x = some (.tup l)) (hi : l[i]? = some v) : Quiet P ⟨d, .extract x i, ty, pos, aft, none⟩ ev (.val v) :=
  q_of hx (by simp [Op.operands]) fun G β w U ρ hl hk => by
    obtain ⟨vs, e, h⟩ := hk
    obtain ⟨u, hu, hok⟩ := oksV_get h i v hi
    refine ⟨u, ?_, hok, hl v (List.mem_of_getElem? hi)⟩
    have hu' : vs.toArray[i]? = some u := by simpa using hu
    simp [execOp, Instr.extract, e, hu]
theorem q_not {x : Operand} {t : Bool} (hx : ev x = some (.val (.one (.b t)))) {xt : TypeId} : Quiet P ⟨d, .unOp .not xt x, ty, pos, aft, none⟩ ev (.val (.one (.b (!t)))) :=
  q_of hx (by simp [Op.operands]) fun G β w U ρ hl hk => by
    have hk : ρ x = .bool t := hk
    exact ⟨.bool !t, by simp [execOp, Op.unary, hk], rfl, trivial⟩
section
variable {x y : Operand} {xt yt : TypeId} {k : IntKind} {m m' : Int}
theorem q_eq (hx : ev x = some (.val (.one (.i k m)))) (hy : ev y = some (.val (.one (.i k m')))) : Quiet P ⟨d, .binOp .eql xt x y yt, ty, pos, aft, none⟩ ev (.val (.one (.b (m == m')))) :=
  q_of2 hx hy (by simp [Op.operands]) (by simp [Op.operands]) fun G β w U ρ _ hk _ hk' => by
    have hk : ρ x = .int k m := hk
    have hk' : ρ y = .int k m' := hk'
    exact ⟨.bool (m == m'), by simp [execOp, eqGuard, binOp, Op.intCmp, hk, hk'], rfl, trivial⟩
theorem q_ne (hx : ev x = some (.val (.one (.i k m)))) (hy : ev y = some (.val (.one (.i k m')))) : Quiet P ⟨d, .binOp .neq xt x y yt, ty, pos, aft, none⟩ ev (.val (.one (.b (m != m')))) :=
  q_of2 hx hy (by simp [Op.operands]) (by simp [Op.operands]) fun G β w U ρ _ hk _ hk' => by
    have hk : ρ x = .int k m := hk
    have hk' : ρ y = .int k m' := hk'
    exact ⟨.bool (m != m'), by simp [execOp, eqGuard, binOp, Op.intCmp, hk, hk'], rfl, trivial⟩
theorem q_lt (hx : ev x = some (.val (.one (.i k m)))) (hy : ev y = some (.val (.one (.i k m')))) : Quiet P ⟨d, .binOp .lss xt x y yt, ty, pos, aft, none⟩ ev (.val (.one (.b (decide (m < m'))))) :=
  q_of2 hx hy (by simp [Op.operands]) (by simp [Op.operands]) fun G β w U ρ _ hk _ hk' => by
    have hk : ρ x = .int k m := hk
    have hk' : ρ y = .int k m' := hk'
    exact ⟨.bool (decide (m < m')), by simp [execOp, eqGuard, binOp, Op.intCmp, hk, hk'], rfl, trivial⟩
theorem q_gt (hx : ev x = some (.val (.one (.i k m)))) (hy : ev y = some (.val (.one (.i k m')))) : Quiet P ⟨d, .binOp .gtr xt x y yt, ty, pos, aft, none⟩ ev (.val (.one (.b (decide (m' < m))))) :=
  q_of2 hx hy (by simp [Op.operands]) (by simp [Op.operands]) fun G β w U ρ _ hk _ hk' => by
    have hk : ρ x = .int k m := hk
    have hk' : ρ y = .int k m' := hk'
    exact ⟨.bool (decide (m' < m)), by simp [execOp, eqGuard, binOp, Op.intCmp, hk, hk'], rfl, trivial⟩
theorem q_ge (hx : ev x = some (.val (.one (.i k m)))) (hy : ev y = some (.val (.one (.i k m')))) : Quiet P ⟨d, .binOp .geq xt x y yt, ty, pos, aft, none⟩ ev (.val (.one (.b (decide (m' ≤ m))))) :=
  q_of2 hx hy (by simp [Op.operands]) (by simp [Op.operands]) fun G β w U ρ _ hk _ hk' => by
    have hk : ρ x = .int k m := hk
    have hk' : ρ y = .int k m' := hk'
    exact ⟨.bool (decide (m' ≤ m)), by simp [execOp, eqGuard, binOp, Op.intCmp, hk, hk'], rfl, trivial⟩
theorem q_add (hx : ev x = some (.val (.one (.i k m)))) (hy : ev y = some (.val (.one (.i k m')))) : Quiet P ⟨d, .binOp .add xt x y yt, ty, pos, aft, none⟩ ev (.val (.one (.i k (k.wrap (m + m'))))) :=
  q_of2 hx hy (by simp [Op.operands]) (by simp [Op.operands]) fun G β w U ρ _ hk _ hk' => by
    have hk : ρ x = .int k m := hk
    have hk' : ρ y = .int k m' := hk'
    exact ⟨.int k (k.wrap (m + m')), by simp [execOp, eqGuard, binOp, Op.intArith, hk, hk'], rfl, trivial⟩
end
theorem q_len {x : Operand} {L : List Nat} {ats : Array TypeId} {st e : TypeId} (hx : ev x = some (.val (.one (.st (magP L))))) (ha : ats[0]? = some st) (hu : P.underlying st = some (.slice e)) :
    Quiet P ⟨d, .call { callee := .builtin .len, args := #[x], argTypes := ats }, ty, pos, aft, none⟩ ev (.val (.one (.i .i64 (L.length : Int)))) :=
  q_of hx (by simp [Op.operands, Call.operands]) fun G β w U ρ _ hk => by
    obtain ⟨A, l, c, he, hl, hc, hlim⟩ := hk
    subst hl
    refine ⟨.int .i64 (L.length : Int), ?_, rfl, trivial⟩
    simp [execOp, resolve, invoke, builtin, Builtin.len_, he, ha, run_underlying hu]
    rfl
/-- What a field is. -/
structure TyF (P : Program) (st : TypeId) (f off m : Nat) (row : Bool) : Prop where
  take : ∀ (w : World) (vs : List Value), off + m ≤ vs.length → (Instr.field st (.agg vs.toArray) f).run P w = .ok (mkVal row ((vs.drop off).take m)) w
  addr : ∀ (w : World) (b o : Nat), (Instr.fieldAt st (.pointer (some ⟨b, o, none⟩)) f).run P w = .ok (.pointer (some ⟨b, o + off, none⟩)) w
  one : row = false → m = 1
theorem tyF_of {st : TypeId} {f off m : Nat} {fields : Array Field} {fd : Field} {dd : TypeDesc} (row : Bool) (hu : P.underlying st = some (.struct fields)) (hf : fields[f]? = some fd) (ho : fd.offset = off) (hd : P.underlying fd.type = some dd)
    (hr : dd.isRow = row) (hi : (P.info? fd.type).map (·.size) = some m) (hm : m ≠ 0) (h1 : row = false → m = 1) : TyF P st f off m row where
  take := fun w vs hl => by
    subst ho
    have hagg : (isAgg fd.type).run P w = .ok row w := by
      unfold isAgg
      rw [Sem.run_bind, run_underlying hd w]
      subst hr
      cases dd <;> simp [TypeDesc.isRow]
    cases hq : P.info? fd.type with
    | none => simp [hq] at hi
    | some i =>
      have hs : i.size = m := by simpa [hq] using hi
      cases row with
      | true =>
        have e : vs.toArray.extract fd.offset (fd.offset + m) = ((vs.drop fd.offset).take m).toArray := by
          apply Array.ext'
          simp [List.extract_eq_take_drop]
        simp [Instr.field, Sem.run_bind, run_underlying hu, hf, part, asAgg, hagg, sizeOf, typeInfo, hq, hs, mkVal, List.extract_eq_take_drop]
      | false =>
        obtain rfl := h1 rfl
        have hlt : fd.offset < vs.length := by omega
        have e : ((vs.drop fd.offset).take 1).headD undef = vs[fd.offset] := by
          rw [List.drop_eq_getElem_cons hlt, List.take_succ_cons]; rfl
        have e2 : (part fd.type vs.toArray fd.offset).run P w = .ok vs[fd.offset] w := by
          unfold part
          rw [Sem.run_bind, hagg]
          simp [hlt]
        have e3 : mkVal false ((vs.drop fd.offset).take 1) = vs[fd.offset] := e
        rw [e3]
        simp [Instr.field, Sem.run_bind, run_underlying hu, hf, asAgg, e2]
  addr := fun w b o => by
    subst ho
    cases hq : P.info? fd.type with
    | none => simp [hq] at hi
    | some i =>
      have hs : i.size = m := by simpa [hq] using hi
      have hn : ¬ i.size = 0 := by omega
      simp [Instr.fieldAt, Sem.run_bind, run_underlying hu, hf, Instr.sureAddr, fieldPlace, sizeOf, typeInfo, hq, hn, Addr.add_mid]
  one := h1
theorem q_field {x : Operand} {st : TypeId} {f off m : Nat} {row : Bool} {cs r : List AC} {v : AV} (hx : ev x = some (.val (.agg cs))) (hf : TyF P st f off m row) (hr : rdO cs off m = some r) (hv : mkAV row r = v) :
    Quiet P ⟨d, .field st x f, ty, pos, aft, none⟩ ev (.val v) :=
  q_of hx (by simp [Op.operands]) fun G β w U ρ hl hk => by
    subst hv
    obtain ⟨vs, he, hok⟩ := hk
    obtain ⟨r1, r2, r3⟩ := rdO_get hr
    have hlen := oks_len hok
    have hys : oks G β w r ((vs.drop off).take m) := by
      refine oks_of_get (by simp; omega) fun k c v hc hv => ?_
      have hk : k < m := by have := (List.getElem?_eq_some_iff.1 hc).1; omega
      rw [r3 k hk] at hc
      obtain ⟨u, hu, hcu⟩ := oks_get hok _ _ hc
      rw [List.getElem?_take, if_pos hk, List.getElem?_drop, hu] at hv
      cases hv
      exact hcu
    refine ⟨mkVal row ((vs.drop off).take m), ?_, mkAV_ok hys (fun e => by have := hf.one e; simp; omega), mkAV_low fun c hc => ?_⟩
    · unfold execOp
      simp only [he, Sem.run_bind, hf.take w vs (by omega), Result.andThen_ok, Sem.run_pure]
    · obtain ⟨k, hk⟩ := List.getElem?_of_mem hc
      rw [r3 k (by have := (List.getElem?_eq_some_iff.1 hk).1; omega)] at hk
      exact hl c (List.mem_of_getElem? hk)
theorem q_fieldAddr {x : Operand} {st : TypeId} {f off m j o o' : Nat} {row : Bool} (hx : ev x = some (.val (.one (.ptr j o)))) (hf : TyF P st f off m row) (ho : o + off = o') :
    Quiet P ⟨d, .fieldAddr st x f, ty, pos, aft, none⟩ ev (.val (.one (.ptr j o'))) :=
  q_of hx (by simp [Op.operands]) fun G β w U ρ hl hk => by
    subst ho
    have hk : ρ x = .pointer (some ⟨β j, o, none⟩) := hk
    refine ⟨.pointer (some ⟨β j, o + off, none⟩), ?_, rfl, hl⟩
    unfold execOp
    simp only [hk, Sem.run_bind, hf.addr, Result.andThen_ok, Sem.run_pure]
/-- A number's record. -/
abbrev aInt (x : Raw) : AV := .agg [.b x.1, .st (magP x.2)]
abbrev aNum (x : Raw) : AR := .val (aInt x)
abbrev aB (x : Bool) : AV := .one (.b x)
abbrev aI (x : Int) : AV := .one (.i .i64 x)
theorem rawV_of_ok {G : Nat → Prop} {β : Nat → Nat} {w : World} {x : Raw} {v : Value} (h : (aInt x).ok G β w v) : RawV w v x := by
  obtain ⟨vs, rfl, h⟩ := h
  rcases vs with _ | ⟨a, _ | ⟨b, _ | ⟨c, vs⟩⟩⟩
  · exact h.elim
  · exact h.2.elim
  · obtain ⟨h1, ⟨A, l, c, h2, h3, h4, h5⟩, _⟩ := h
    have h1 : a = .bool x.1 := h1
    subst h1 h2
    exact ⟨A, l, c, rfl, h3, h4, h5⟩
  · exact h.2.2.elim
theorem ok_of_rawV {G : Nat → Prop} {β : Nat → Nat} {w : World} {x : Raw} {v : Value} (h : RawV w v x) : (aInt x).ok G β w v := by
  obtain ⟨A, l, c, rfl, h3, h4, h5⟩ := h
  exact ⟨[_, _], rfl, rfl, ⟨A, l, c, rfl, h3, h4, h5⟩, trivial⟩
/-- A contract on numbers' records, from its law. -/
theorem ct1 {f : FuncId} {fn : Func} {c : Code} {x : Raw} {res : AR} (hf : P.funcs[f]? = some fn) (hname : (fn.name == "runtime.NumGoroutine") = false) (hb : fn.body = some c) (hn : res.nop = true)
    (h : ∀ (w : World) (u : Value), RawV w u x → Calls P f #[u] w fun e w' => ∃ v, e = .returned v ∧ (∀ G β, res.ok G β w' v) ∧ Below w.heap.size w w') : Ct P f [aNum x] res where
  enters := fun vals w => enters_of hf hname hb vals w
  nop := hn
  calls := by
    intro G β w vals _ ha
    rcases vals with _ | ⟨u, _ | ⟨v, vs⟩⟩
    · exact ha.elim
    · refine (h w u (rawV_of_ok ha.1)).mono ?_
      rintro e w' ⟨v, rfl, h1, h2⟩
      exact ⟨v, rfl, h1 G β, h2⟩
    · exact ha.2.elim
theorem ct2 {f : FuncId} {fn : Func} {c : Code} {x y : Raw} {res : AR} (hf : P.funcs[f]? = some fn) (hname : (fn.name == "runtime.NumGoroutine") = false) (hb : fn.body = some c) (hn : res.nop = true)
    (h : ∀ (w : World) (u v : Value), RawV w u x → RawV w v y → Calls P f #[u, v] w fun e w' => ∃ r, e = .returned r ∧ (∀ G β, res.ok G β w' r) ∧ Below w.heap.size w w') : Ct P f [aNum x, aNum y] res where
  enters := fun vals w => enters_of hf hname hb vals w
  nop := hn
  calls := by
    intro G β w vals _ ha
    rcases vals with _ | ⟨u, _ | ⟨v, _ | ⟨t, vs⟩⟩⟩
    · exact ha.elim
    · exact ha.2.elim
    · refine (h w u v (rawV_of_ok ha.1) (rawV_of_ok ha.2.1)).mono ?_
      rintro e w' ⟨r, rfl, h1, h2⟩
      exact ⟨r, rfl, h1 G β, h2⟩
    · exact ha.2.2.elim
theorem tup_ok {G : Nat → Prop} {β : Nat → Nat} {w : World} {l : List AV} {vs : List Value} (h : oksV G β w l vs) : (AR.tup l).ok G β w (.tuple vs.toArray) := ⟨vs, rfl, h⟩
end
end Go.Proofs.YtonbhpadoplpkaaGreat
/- An abstract machine: records and rows. -/
namespace Go.Proofs.YtonbhpadoplpkaaGreat
open Go.RowKit Go.Deep
section
variable {P : Program} {d : Option Nat} {ty : TypeId} {pos : String} {aft : Array Edge} {ev : Operand → Option AR}
/-- A slice of numbers' records. -/
def polyP (xs : List Raw) : Pred where
  is := fun G w v => ∃ A n c, v = .slice A n c ∧ n = xs.length ∧ n ≤ c ∧ Poly w w.heap.size A xs ∧ (0 < xs.length → ∀ ad, A = some ad → ¬ G ad.block)
  cell := by
    rintro G w v ⟨A, l, c, rfl, _⟩
    exact ⟨noLimb_slice _ _ _, rfl⟩
  stay := by
    rintro G w w' v ⟨A, l, c, rfl, hl, hc, hp, hG⟩ m
    obtain ⟨H, hH, e⟩ := m.ext
    refine ⟨A, l, c, rfl, hl, hc, ⟨fun hn => ?_⟩, hG⟩
    obtain ⟨ad, ha, hb, hcs⟩ := hp.cells hn
    have hblk : w'.heap[ad.block]? = w.heap[ad.block]? := e.block _ hb fun h => hG hn ad ha (hH _ h)
    refine ⟨ad, ha, Nat.lt_of_lt_of_le hb e.size, fun j hj => ?_⟩
    obtain ⟨Am, l, c, h1, h2, h3, h4, h5⟩ := hcs j hj
    refine ⟨Am, l, c, ?_, ?_, h3, h4, (h5.ext (Nat.le_refl _) e).more e.size⟩
    · rw [cell_of_block (w := w) (by rw [block_of_add]; exact hblk)]; exact h1
    · rw [cell_of_block (w := w) (by show w'.heap[(ad.add (j * 2)).block]? = w.heap[(ad.add (j * 2)).block]?; rw [block_of_add]; exact hblk)]; exact h2
  grow := by
    rintro G G' w v ⟨A, l, c, rfl, hl, hc, hp, hG⟩ hg
    refine ⟨A, l, c, rfl, hl, hc, hp, fun hn ad ha h => ?_⟩
    obtain ⟨ad', ha', hb, _⟩ := hp.cells hn
    rw [ha] at ha'
    cases ha'
    rcases hg _ h with h | h
    · exact hG hn ad ha h
    · omega
/-- A pointer to a number's record that is only read. -/
def recP (x : Raw) : Pred where
  is := fun G w v => ∃ ad Am l c, v = .pointer (some ad) ∧ ¬ G ad.block ∧ ad.block < w.heap.size ∧ w.cell? ad = some (.bool x.1) ∧ w.cell? ⟨ad.block, ad.off + 1, none⟩ = some (.slice Am l c) ∧ l = x.2.length ∧ l ≤ c ∧ Lim w w.heap.size Am x.2
  cell := by
    rintro G w v ⟨ad, _, _, _, rfl, _⟩
    exact ⟨fun _ => by simp, rfl⟩
  stay := by
    rintro G w w' v ⟨ad, Am, l, c, rfl, hG, hb, h1, h2, h3, h4, h5⟩ m
    obtain ⟨H, hH, e⟩ := m.ext
    have hblk : w'.heap[ad.block]? = w.heap[ad.block]? := e.block _ hb fun h => hG (hH _ h)
    exact ⟨ad, Am, l, c, rfl, hG, Nat.lt_of_lt_of_le hb e.size, by rw [cell_of_block (w := w) hblk]; exact h1, by rw [cell_of_block (w := w) (by exact hblk)]; exact h2, h3, h4, (h5.ext (Nat.le_refl _) e).more e.size⟩
  grow := by
    rintro G G' w v ⟨ad, Am, l, c, rfl, hG, hb, h1⟩ hg
    refine ⟨ad, Am, l, c, rfl, fun h => ?_, hb, h1⟩
    rcases hg _ h with h | h
    · exact hG h
    · omega
theorem q_loadP {x : Operand} {r : Raw} {lt : TypeId} (hx : ev x = some (.val (.one (.st (recP r))))) (hty : TyI P lt 2 true) : Quiet P ⟨d, .load lt x, ty, pos, aft, none⟩ ev (aNum r) :=
  q_of hx (by simp [Op.operands]) fun G β w U ρ _ hk => by
    obtain ⟨ad, Am, l, c, he, hG, hb, h1, h2, h3, h4, h5⟩ := hk
    have hl := hty.loadA w ad [.bool r.1, .slice Am l c] (fun j v hv => by
      rcases j with _ | _ | j
      · simp at hv; subst hv
        have hz : ad.add 0 = ad := by unfold Addr.add; rw [if_pos rfl]
        rw [hz]; exact h1
      · simp at hv; subst hv
        have hz : ad.add 1 = ⟨ad.block, ad.off + 1, none⟩ := by unfold Addr.add; rw [if_neg (by omega)]
        rw [hz]; exact h2
      · simp at hv) rfl
    refine ⟨mkVal true [.bool r.1, .slice Am l c], ?_, ⟨_, rfl, rfl, ⟨Am, l, c, rfl, h3, h4, h5⟩, trivial⟩, by intro c hc; simp at hc; rcases hc with rfl | rfl <;> trivial⟩
    unfold execOp
    simp only [he, Instr.loadAt, Instr.sureAddr, Sem.run_bind, Sem.run_pure, Result.andThen_ok, hl]
theorem q_polyAt {x ix : Operand} {xs : List Raw} {k : Nat} {st e : TypeId} {r : Raw} (hx : ev x = some (.val (.one (.st (polyP xs))))) (hi : ev ix = some (.val (aI (k : Int)))) (hr : xs[k]? = some r) (hu : P.underlying st = some (.slice e)) (hs : (P.info? e).map (·.size) = some 2) :
    Quiet P ⟨d, .indexAddr st x ix, ty, pos, aft, none⟩ ev (.val (.one (.st (recP r)))) :=
  q_of2 hx hi (by simp [Op.operands]) (by simp [Op.operands]) fun G β w U ρ _ hk _ hk' => by
    obtain ⟨A, n, c, he, hn, hc, hp, hG⟩ := hk
    have hk' : ρ ix = .int .i64 (k : Int) := hk'
    have hkl : k < xs.length := (List.getElem?_eq_some_iff.1 hr).1
    obtain ⟨ad, Am, l, cc, ha, hb, h1, h2, h3, h4, h5⟩ := hp.at_ hkl
    have hr' : xs.getD k (false, []) = r := by simp [List.getD_eq_getElem?_getD, hr]
    rw [hr'] at h1 h3 h5
    subst ha
    refine ⟨.pointer (some (ad.add (k * 2))), ?_, ⟨ad.add (k * 2), Am, l, cc, rfl, ?_, ?_, h1, h2, h3, h4, h5⟩, trivial⟩
    · cases hq : P.info? e with
      | none => simp [hq] at hs
      | some i =>
        have hsz : i.size = 2 := by simpa [hq] using hs
        have h0 : (0 : Int) ≤ (k : Int) ∧ (k : Int) < ((xs.length : Nat) : Int) := by omega
        subst hn
        simp [execOp, Instr.indexAt, he, hk', asIntOf, run_underlying hu, sizeOf, typeInfo, hq, hsz, hkl]
    · rw [block_of_add]; exact hG (by omega) ad rfl
    · rw [block_of_add]; exact hb
theorem q_lenPoly {x : Operand} {xs : List Raw} {ats : Array TypeId} {st e : TypeId} (hx : ev x = some (.val (.one (.st (polyP xs))))) (ha : ats[0]? = some st) (hu : P.underlying st = some (.slice e)) :
    Quiet P ⟨d, .call { callee := .builtin .len, args := #[x], argTypes := ats }, ty, pos, aft, none⟩ ev (.val (.one (.i .i64 (xs.length : Int)))) :=
  q_of hx (by simp [Op.operands, Call.operands]) fun G β w U ρ _ hk => by
    obtain ⟨A, l, c, he, hl, hc, _⟩ := hk
    subst hl
    refine ⟨.int .i64 (xs.length : Int), ?_, rfl, trivial⟩
    simp [execOp, resolve, invoke, builtin, Builtin.len_, he, ha, run_underlying hu]
    rfl
def numbered : Nat → List Operand → List (Nat × Operand)
  | _, [] => []
  | k, x :: xs => (k, x) :: numbered (k + 1) xs
theorem numbered_map (ρ : Operand → Value) : ∀ (k : Nat) (xs : List Operand), (numbered k xs).map (fun p => (p.1, ρ p.2)) = ((xs.map ρ).zipIdx k).map fun x => (x.2, x.1)
  | _, [] => rfl
  | k, x :: xs => by simp [numbered, List.zipIdx_cons, numbered_map ρ (k + 1) xs]
theorem q_buildInts {st e : TypeId} {len : Nat} {parts : Array (Nat × Operand)} {ops : List Operand} {xs : List Raw} {ie : TypeInfo} {z : Value} (hp : parts.toList = numbered 0 ops) (hl : len = ops.length) (ha : evs ev ops = some (xs.map aNum))
    (hu : P.underlying st = some (.slice e)) (hi : P.info? e = some ie) (hs : ie.size = 2) (hz : ie.zero = some z) (hn : Nat.ble 1 len = true) (hn2 : Nat.ble len 1000 = true) :
    Quiet P ⟨d, .buildSlice st len parts, ty, pos, aft, none⟩ ev (.val (.one (.st (polyP xs)))) := by
  intro G β w U ρ hG hρ
  have hn := Nat.le_of_ble_eq_true hn
  have hn2 := Nat.le_of_ble_eq_true hn2
  have hops : ∀ x ∈ ops, x ∈ (Op.buildSlice st len parts).operands.toList := by
    have key : ∀ (k : Nat) (l : List Operand), (numbered k l).map (·.2) = l := by
      intro k l
      induction l generalizing k with
      | nil => rfl
      | cons a l ih => simp [numbered, ih]
    intro x hx
    simp only [Op.operands]
    rw [hp, key]
    exact hx
  have hvals : ∀ (ops : List Operand) (xs : List Raw), (∀ x ∈ ops, ∀ r, ev x = some r → r.ok G β w (ρ x)) → evs ev ops = some (xs.map aNum) → ops.length = xs.length ∧ ∀ (k : Nat) (x : Raw), xs[k]? = some x → ∃ A l c, (ops.map ρ)[k]? = some (Value.agg #[.bool x.1, .slice A l c]) ∧ l = x.2.length ∧ l ≤ c ∧ Lim w w.heap.size A x.2 := by
    intro ops
    induction ops with
    | nil =>
      intro xs _ h
      cases xs with
      | nil => exact ⟨rfl, by simp⟩
      | cons x xs => simp [evs] at h
    | cons o ops ih =>
      intro xs ho h
      simp only [evs] at h
      cases h1 : ev o with
      | none => simp [h1] at h
      | some r =>
        cases h2 : evs ev ops with
        | none => simp [h1, h2] at h
        | some rs =>
          cases xs with
          | nil => simp [h1, h2] at h
          | cons x xs =>
            simp only [h1, h2, Option.some.injEq, List.map_cons, List.cons.injEq] at h
            obtain ⟨rfl, rfl⟩ := h
            obtain ⟨g1, g2⟩ := ih xs (fun y hy => ho y (by simp [hy])) h2
            refine ⟨by simp [g1], fun k y hy => ?_⟩
            cases k with
            | zero =>
              simp at hy; subst hy
              obtain ⟨A, l, c, e1, e2, e3, e4⟩ := rawV_of_ok (ho o (by simp) _ h1)
              exact ⟨A, l, c, by simp [e1], e2, e3, e4⟩
            | succ k =>
              obtain ⟨A, l, c, e1, e2⟩ := g2 k y (by simpa using hy)
              exact ⟨A, l, c, by simpa using e1, e2⟩
  obtain ⟨hlen, hget⟩ := hvals ops xs (fun x hx r hr => (hρ x r (hops x hx) hr).2) ha
  have hsz : ∀ v ∈ ops.map ρ, v.cells.size = 2 := by
    intro v hv
    obtain ⟨k, hk⟩ := List.getElem?_of_mem hv
    have hkl : k < xs.length := by have := (List.getElem?_eq_some_iff.1 hk).1; simp at this; omega
    obtain ⟨A, l, c, e1, _⟩ := hget k xs[k] (List.getElem?_eq_getElem hkl)
    rw [hk] at e1
    cases e1
    rfl
  have hparts : (parts.map fun (i, x) => (i, ρ x)).toList = ((ops.map ρ).zipIdx 0).map fun x => (x.2, x.1) := by
    rw [Array.toList_map, hp]
    exact numbered_map ρ 0 ops
  have hfill := Great.fill_whole (s := 2) (by omega) (ops.map ρ) ((Array.range (len * 2)).map (z.cells[· % z.cells.size]!)) hsz (by simp [hl])
  have hrun := run_buildSlice (P := P) w st e len (parts.map fun (i, x) => (i, ρ x)) _ ie z hu hi hz (by rw [hs]; omega) (by rw [hs]; omega) (by rw [hs, hparts]; exact hfill)
  have hok : (polyP xs).is G (w.alloc (.cells ((ops.map ρ).flatMap fun v => v.cells.toList).toArray e)) (.slice (some ⟨w.heap.size, 0, none⟩) len len) := by
    refine ⟨some ⟨w.heap.size, 0, none⟩, len, len, rfl, by omega, Nat.le_refl _, ⟨fun _ => ?_⟩, fun _ ad e => ?_⟩
    rotate_left
    · cases e
      intro h
      have := hG _ h
      simp at this
    refine ⟨⟨w.heap.size, 0, none⟩, rfl, by simp, fun j hj => ?_⟩
    obtain ⟨A, l, c, e1, e2, e3, e4⟩ := hget j xs[j] (List.getElem?_eq_getElem hj)
    have hcell : ∀ k, (w.alloc (.cells ((ops.map ρ).flatMap fun v => v.cells.toList).toArray e)).cell? ⟨w.heap.size, k, none⟩ = ((ops.map ρ)[k / 2]?).bind (fun v => v.cells[k % 2]?) := by
      intro k
      rw [cell_of_row _ _ k _ _ (0, 0) (heap_alloc_new w _)]
      rw [List.getElem?_toArray, Great.flat_get (by omega) _ hsz]
    have hx : xs.getD j (false, []) = xs[j] := by simp [hj]
    rw [hx, add_plain]
    refine ⟨A, l, c, ?_, ?_, e2, e3, e4.call (Nat.le_refl _) ((Below.refl _ _).alloc (Nat.le_refl _) _)⟩
    · rw [hcell, show j * 2 / 2 = j by omega, show j * 2 % 2 = 0 by omega, e1]; rfl
    · show World.cell? _ ⟨w.heap.size, j * 2 + 1, none⟩ = _
      rw [hcell, show (j * 2 + 1) / 2 = j by omega, show (j * 2 + 1) % 2 = 1 by omega, e1]; rfl
  refine ⟨_, _, ?_, (Below.refl _ _).alloc (Nat.le_refl _) _, hok, trivial⟩
  · unfold execOp
    simp only [Sem.run_bind, hrun, Result.andThen_ok, Sem.run_pure]
inductive EvInts (ev : Operand → Option AR) : Nat → List (Nat × Operand) → List Raw → Prop
  | nil (k : Nat) : EvInts ev k [] []
  | cons (k : Nat) (x : Operand) (r : Raw) (rest : List (Nat × Operand)) (xs : List Raw) (hx : ev x = some (aNum r)) (h : EvInts ev (k + 1) rest xs) : EvInts ev k ((k, x) :: rest) (r :: xs)
theorem evInts_ops {k : Nat} {parts : List (Nat × Operand)} {xs : List Raw} (h : EvInts ev k parts xs) : parts = numbered k (parts.map (·.2)) ∧ evs ev (parts.map (·.2)) = some (xs.map aNum) ∧ parts.length = xs.length := by
  induction h with
  | nil k => exact ⟨rfl, rfl, rfl⟩
  | cons k x r rest xs hx h ih =>
    refine ⟨?_, ?_, by simp [ih.2.2]⟩
    · show (k, x) :: rest = (k, x) :: numbered (k + 1) (rest.map (·.2))
      rw [← ih.1]
    · exact evs_cons hx ih.2.1
theorem q_ints {st e : TypeId} {len : Nat} {parts : List (Nat × Operand)} {xs : List Raw} {ie : TypeInfo} {z : Value} (hl : Nat.beq len parts.length = true) (hn : Nat.ble 1 len = true) (hn2 : Nat.ble len 1000 = true)
    (hu : P.underlying st = some (.slice e)) (hi : P.info? e = some ie) (hs : ie.size = 2) (hz : ie.zero = some z) (h : EvInts ev 0 parts xs) :
    Quiet P ⟨d, .buildSlice st len parts.toArray, ty, pos, aft, none⟩ ev (.val (.one (.st (polyP xs)))) := by
  obtain ⟨h1, h2, h3⟩ := evInts_ops h
  exact q_buildInts (ops := parts.map (·.2)) (by simpa using h1) (by simpa using Nat.eq_of_beq_eq_true hl) h2 hu hi hs hz hn hn2
/-! ### records made of parts -/
def AV.cells : AV → List AC
  | .one c => [c]
  | .agg cs => cs
def AV.whole : AV → Bool
  | .one c => c.keepable
  | .agg _ => true
def abuild (pl : List (Nat × Nat)) (ev : Operand → Option AR) : List AC → List (Nat × Operand) → Option (List AC)
  | cs, [] => some cs
  | cs, (i, x) :: rest => match pl[i]? with
    | some (off, sz) => match ev x with
      | some (.val v) => match v.whole && Nat.beq v.cells.length sz with
        | true => match layO cs off v.cells with
          | some r => abuild pl ev r rest
          | none => none
        | false => none
      | _ => none
    | none => none
/-- How a type's values are made. -/
def TyB (P : Program) (ty : TypeId) (pl : List (Nat × Nat)) (zs : List AC) : Prop :=
  ∃ (f : Nat → Option (Nat × Nat)) (vs : List Value), (∀ i p, pl[i]? = some p → f i = some p) ∧ (∀ G β w, oks G β w zs vs) ∧ (∀ c ∈ zs, c.nop = true) ∧ ∀ (w : World) (parts : Array (Nat × Value)) (cells : Array Value), Instr.fill f vs.toArray parts.toList = some cells → (Instr.build ty parts).run P w = .ok (.agg cells) w
theorem tyB_struct {ty : TypeId} {it : TypeInfo} {z : Value} {fields : Array Field} {pl : List (Nat × Nat)} {zs : List AC} (vs : List Value) (hi : P.info? ty = some it) (hz : it.zero = some z) (hv : z.cells = vs.toArray) (hu : P.underlying ty = some (.struct fields))
    (hp : fields.toList.mapM (fun f => (P.info? f.type).map fun i => (f.offset, i.size)) = some pl) (hok : ∀ G β w, oks G β w zs vs) (hn : ∀ c ∈ zs, c.nop = true) : TyB P ty pl zs :=
  ⟨fun i => pl.toArray[i]?, vs, fun i p h => by simpa using h, hok, hn, fun w parts cells hf => run_build w ty parts cells (by
    unfold Program.built
    simp only [hi, hu, hz, hp, hv]
    exact hf)⟩
theorem tyB_array {ty e : TypeId} {it ie : TypeInfo} {z : Value} {len : Nat} {pl : List (Nat × Nat)} {zs : List AC} (vs : List Value) (hi : P.info? ty = some it) (hz : it.zero = some z) (hv : z.cells = vs.toArray) (hu : P.underlying ty = some (.array len e)) (hie : P.info? e = some ie)
    (hp : ∀ i p, pl[i]? = some p → p = (i * ie.size, ie.size)) (hok : ∀ G β w, oks G β w zs vs) (hn : ∀ c ∈ zs, c.nop = true) : TyB P ty pl zs :=
  ⟨fun i => some (i * ie.size, ie.size), vs, fun i p h => by rw [hp i p h], hok, hn, fun w parts cells hf => run_build w ty parts cells (by
    unfold Program.built
    simp only [hi, hu, hz, hie, hv]
    exact hf)⟩
theorem whole_cells {G : Nat → Prop} {β : Nat → Nat} {w : World} {v : AV} {x : Value} (hw : v.whole = true) (h : v.ok G β w x) : oks G β w v.cells x.cells.toList := by
  cases v with
  | one c =>
    have := AC.keep hw h
    rw [oneCell_cells this.2]
    exact ⟨h, trivial⟩
  | agg cs =>
    obtain ⟨vs, rfl, h⟩ := h
    simpa [AV.cells, Value.cells] using h
theorem fill_abs {G : Nat → Prop} {β : Nat → Nat} {w : World} {ρ : Operand → Value} {pl : List (Nat × Nat)} {f : Nat → Option (Nat × Nat)} (hf : ∀ i p, pl[i]? = some p → f i = some p) : ∀ (parts : List (Nat × Operand)) {cs r : List AC} {vs : List Value},
    (∀ i x, (i, x) ∈ parts → ∀ v, ev x = some v → v.ok G β w (ρ x)) → oks G β w cs vs → abuild pl ev cs parts = some r → ∃ us, Instr.fill f vs.toArray (parts.map fun p => (p.1, ρ p.2)) = some us.toArray ∧ oks G β w r us
  | [], cs, r, vs, _, ho, h => by simp [abuild] at h; subst h; exact ⟨vs, rfl, ho⟩
  | (i, x) :: rest, cs, r, vs, hρ, ho, h => by
    simp only [abuild] at h
    split at h
    · rename_i off sz hpl
      split at h
      · rename_i v hev
        split at h
        · rename_i hwh
          split at h
          · rename_i r' hlay
            simp only [Bool.and_eq_true] at hwh
            have hc := whole_cells hwh.1 (hρ i x (by simp) _ hev)
            have hsz : v.cells.length = sz := Nat.eq_of_beq_eq_true hwh.2
            obtain ⟨us, hus, hok⟩ := oks_lay ho hc hlay
            have hclen := oks_len hc
            obtain ⟨g1, g2, g3⟩ := layO_get hus
            obtain ⟨us', h1, h2⟩ := fill_abs hf rest (fun j y hy v hv => hρ j y (by simp [hy]) v hv) hok h
            refine ⟨us', ?_, h2⟩
            rw [← h1]
            have hfi := hf i _ hpl
            have hsize : (ρ x).cells.size = sz := by rw [← hsz, hclen]; simp
            have hle : off + (ρ x).cells.size ≤ vs.toArray.size := by simpa using g2
            have he : (ρ x).cells.zipIdx.foldl (fun cs (p : Value × Nat) => cs.setIfInBounds (off + p.2) p.1) vs.toArray = us.toArray := by
              obtain ⟨q1, q2⟩ := Great.foldl_set off (ρ x).cells.toList 0 vs.toArray
              have e0 : (ρ x).cells.zipIdx.foldl (fun cs (p : Value × Nat) => cs.setIfInBounds (off + p.2) p.1) vs.toArray = ((ρ x).cells.toList.zipIdx 0).foldl (fun cs (p : Value × Nat) => cs.setIfInBounds (off + p.2) p.1) vs.toArray := by
                rw [← Array.foldl_toList]
                simp
              rw [e0]
              apply Array.ext_getElem?
              intro k
              rw [q2]
              simp only [Nat.add_zero, List.getElem?_toArray, List.size_toArray]
              rw [g3]
              by_cases hk : off ≤ k ∧ k < off + (ρ x).cells.toList.length
              · rw [if_pos ⟨hk.1, hk.2, by omega⟩, if_pos hk]
              · rw [if_neg (fun h => hk ⟨h.1, h.2.1⟩), if_neg hk]
            simp only [List.map_cons, Instr.fill, hfi, hsize]
            rw [if_neg (by simp; rw [hsize] at hle; simpa using hle)]
            rw [he]
          · cases h
        · cases h
      · cases h
    · cases h
theorem q_build {bt : TypeId} {parts : Array (Nat × Operand)} {pl : List (Nat × Nat)} {zs r : List AC} (hb : TyB P bt pl zs) (hr : abuild pl ev zs parts.toList = some r) : Quiet P ⟨d, .build bt parts, ty, pos, aft, none⟩ ev (.val (.agg r)) := by
  intro G β w U ρ hG hρ
  obtain ⟨f, vs, hf, hok, hn, hrun⟩ := hb
  have hmem : ∀ i x, (i, x) ∈ parts.toList → x ∈ (Op.build bt parts).operands.toList := by
    intro i x hx
    simp only [Op.operands]
    exact List.mem_map.2 ⟨(i, x), hx, rfl⟩
  obtain ⟨us, h1, h2⟩ := fill_abs (ρ := ρ) hf parts.toList (fun i x hx v hv => (hρ x v (hmem i x hx) hv).2) (hok G β w) hr
  refine ⟨.agg us.toArray, w, ?_, Below.refl _ _, ⟨us, rfl, h2⟩, ?_⟩
  · have := hrun w (parts.map fun (i, x) => (i, ρ x)) us.toArray (by rw [Array.toList_map]; exact h1)
    unfold execOp
    simp only [Sem.run_bind, this, Result.andThen_ok, Sem.run_pure]
  · have key : ∀ (ps : List (Nat × Operand)) (cs r : List AC), (∀ i x, (i, x) ∈ ps → ∀ v, ev x = some v → v.low U) → (∀ c ∈ cs, c.low U) → abuild pl ev cs ps = some r → ∀ c ∈ r, c.low U := by
      intro ps
      induction ps with
      | nil => intro cs r _ hc h; simp [abuild] at h; subst h; exact hc
      | cons p ps ih =>
        obtain ⟨i, x⟩ := p
        intro cs r hlow hc h
        simp only [abuild] at h
        split at h
        · split at h
          · rename_i v hev
            split at h
            · split at h
              · rename_i r' hlay
                refine ih r' r (fun j y hy v hv => hlow j y (by simp [hy]) v hv) (fun c hcm => ?_) h
                obtain ⟨k, hk⟩ := List.getElem?_of_mem hcm
                rw [(layO_get hlay).2.2] at hk
                split at hk
                · have hvl := hlow i x (by simp) _ hev
                  have hm := List.mem_of_getElem? hk
                  cases v with
                  | one c' => simp [AV.cells] at hm; subst hm; exact hvl
                  | agg cs' => exact hvl c hm
                · exact hc c (List.mem_of_getElem? hk)
              · cases h
            · cases h
          · cases h
        · cases h
    exact key parts.toList zs r (fun i x hx v hv => (hρ x v (hmem i x hx) hv).1) (fun c hc => AC.nop_low (hn c hc) U) hr
/-- A place in an array. -/
theorem q_arrayAt {x ix : Operand} {j o o' len sz : Nat} {k : IntKind} {m : Int} {at_ e : TypeId} (hx : ev x = some (.val (.one (.ptr j o)))) (hi : ev ix = some (.val (.one (.i k m)))) (hu : P.underlying at_ = some (.array len e)) (hs : (P.info? e).map (·.size) = some sz) (h0 : decide (0 ≤ m ∧ m < (len : Int)) = true) (ho : o + m.toNat * sz = o') :
    Quiet P ⟨d, .indexAddr at_ x ix, ty, pos, aft, none⟩ ev (.val (.one (.ptr j o'))) :=
  q_of2 hx hi (by simp [Op.operands]) (by simp [Op.operands]) fun G β w U ρ hl hk _ hk' => by
    subst ho
    have hk : ρ x = .pointer (some ⟨β j, o, none⟩) := hk
    have hk' : ρ ix = .int k m := hk'
    have h0 := of_decide_eq_true h0
    refine ⟨.pointer (some ⟨β j, o + m.toNat * sz, none⟩), ?_, rfl, hl⟩
    cases hq : P.info? e with
    | none => simp [hq] at hs
    | some i =>
      have hsz : i.size = sz := by simpa [hq] using hs
      simp [execOp, Instr.indexAt, hk, hk', asIntOf, run_underlying hu, sizeOf, typeInfo, hq, hsz, h0.1, h0.2, Instr.sureAddr, Addr.add_mid]
theorem q_pickT {c x y : Operand} {v : AR} (hc : ev c = some (.val (.one (.b true)))) (hx : ev x = some v) : Quiet P ⟨d, .pick c x y, ty, pos, aft, none⟩ ev v :=
  q_of2 hc hx (by simp [Op.operands]) (by simp [Op.operands]) fun G β w U ρ _ hk hl hk' => by
    have hk : ρ c = .bool true := hk
    exact ⟨ρ x, by simp [execOp, hk, asBool], hk', hl⟩
theorem q_pickF {c x y : Operand} {v : AR} (hc : ev c = some (.val (.one (.b false)))) (hy : ev y = some v) : Quiet P ⟨d, .pick c x y, ty, pos, aft, none⟩ ev v :=
  q_of2 hc hy (by simp [Op.operands]) (by simp [Op.operands]) fun G β w U ρ _ hk hl hk' => by
    have hk : ρ c = .bool false := hk
    exact ⟨ρ y, by simp [execOp, hk, asBool], hk', hl⟩
end
end Go.Proofs.YtonbhpadoplpkaaGreat
/- An abstract machine: the walk's steps, each by its operation. -/
namespace Go.Proofs.YtonbhpadoplpkaaGreat
open Go.RowKit Go.Deep
section
variable {P : Program} {n : Nat} {all ops : List Oper} {draw : Bool} {acc : List (AR × Eff)} {tm : List (Nat × AR)} {bx : List (Nat × TypeId × List AC)} {nb : Nat} {K : ASt → Prop} {d : Nat} {ty : TypeId} {pos : String} {aft : Array Edge}
theorem AW_move {x : Operand} {v : AR} (hd : Nat.blt d n = true) (hx : ASt.ev ⟨tm, bx, nb⟩ x = some v) (h : AW P n all draw ((v, .no) :: acc) ⟨(d, v) :: tm, bx, nb⟩ ops K) : AW P n all draw acc ⟨tm, bx, nb⟩ (⟨some d, .move x, ty, pos, aft, none⟩ :: ops) K :=
  AW_quiet hd (q_move hx) h
theorem AW_assign {x : Operand} {v : AR} (hd : Nat.blt d n = true) (hx : ASt.ev ⟨tm, bx, nb⟩ x = some v) (h : AW P n all draw ((v, .no) :: acc) ⟨(d, v) :: tm, bx, nb⟩ ops K) : AW P n all draw acc ⟨tm, bx, nb⟩ (⟨some d, .assign x, ty, pos, aft, none⟩ :: ops) K :=
  AW_quiet hd (q_assign hx) h
theorem AW_extract {x : Operand} {l : List AV} {i : Nat} {v : AV} (hd : Nat.blt d n = true) (hx : ASt.ev ⟨tm, bx, nb⟩ x = some (.tup l)) (hi : l[i]? = some v) (h : AW P n all draw ((.val v, .no) :: acc) ⟨(d, .val v) :: tm, bx, nb⟩ ops K) : AW P n all draw acc ⟨tm, bx, nb⟩ (⟨some d, .extract x i, ty, pos, aft, none⟩ :: ops) K :=
  AW_quiet hd (q_extract hx hi) h
theorem AW_not {x : Operand} {xt : TypeId} {t : Bool} (hd : Nat.blt d n = true) (hx : ASt.ev ⟨tm, bx, nb⟩ x = some (.val (.one (.b t)))) (h : AW P n all draw ((.val (.one (.b (!t))), .no) :: acc) ⟨(d, .val (.one (.b (!t)))) :: tm, bx, nb⟩ ops K) : AW P n all draw acc ⟨tm, bx, nb⟩ (⟨some d, .unOp .not xt x, ty, pos, aft, none⟩ :: ops) K :=
  AW_quiet hd (q_not hx) h
theorem AW_build {bt : TypeId} {parts : Array (Nat × Operand)} {pl : List (Nat × Nat)} {zs r : List AC} (hd : Nat.blt d n = true) (hb : TyB P bt pl zs) (hr : abuild pl (ASt.ev ⟨tm, bx, nb⟩) zs parts.toList = some r) (h : AW P n all draw ((.val (.agg r), .no) :: acc) ⟨(d, .val (.agg r)) :: tm, bx, nb⟩ ops K) : AW P n all draw acc ⟨tm, bx, nb⟩ (⟨some d, .build bt parts, ty, pos, aft, none⟩ :: ops) K :=
  AW_quiet hd (q_build hb hr) h
theorem AW_field {x : Operand} {st : TypeId} {f off m : Nat} {row : Bool} {cs r : List AC} {v : AV} (hd : Nat.blt d n = true) (hf : TyF P st f off m row) (hx : ASt.ev ⟨tm, bx, nb⟩ x = some (.val (.agg cs))) (hr : rdO cs off m = some r) (hv : mkAV row r = v) (h : AW P n all draw ((.val v, .no) :: acc) ⟨(d, .val v) :: tm, bx, nb⟩ ops K) : AW P n all draw acc ⟨tm, bx, nb⟩ (⟨some d, .field st x f, ty, pos, aft, none⟩ :: ops) K :=
  AW_quiet hd (q_field hx hf hr hv) h
theorem AW_fieldAddr {x : Operand} {st : TypeId} {f off m j o o' : Nat} {row : Bool} (hd : Nat.blt d n = true) (hf : TyF P st f off m row) (hx : ASt.ev ⟨tm, bx, nb⟩ x = some (.val (.one (.ptr j o)))) (ho : o + off = o') (h : AW P n all draw ((.val (.one (.ptr j o')), .no) :: acc) ⟨(d, .val (.one (.ptr j o'))) :: tm, bx, nb⟩ ops K) : AW P n all draw acc ⟨tm, bx, nb⟩ (⟨some d, .fieldAddr st x f, ty, pos, aft, none⟩ :: ops) K :=
  AW_quiet hd (q_fieldAddr hx hf ho) h
theorem AW_fieldAddrg {jg gd : Nat} {b t : Bool} {x : Operand} {st : TypeId} {f off m j o o' : Nat} {row : Bool} (hgd : dstIn all jg = some gd) (ht : look tm gd = some (.val (.one (.b t)))) (hb : (t == b) = true) (hd : Nat.blt d n = true) (hf : TyF P st f off m row) (hx : ASt.ev ⟨tm, bx, nb⟩ x = some (.val (.one (.ptr j o)))) (ho : o + off = o')
    (h : AW P n all draw ((.val (.one (.ptr j o')), .no) :: acc) ⟨(d, .val (.one (.ptr j o'))) :: tm, bx, nb⟩ ops K) : AW P n all draw acc ⟨tm, bx, nb⟩ (⟨some d, .fieldAddr st x f, ty, pos, aft, some (jg, b)⟩ :: ops) K :=
  AW_quietg hgd ht hb hd (q_fieldAddr hx hf ho) h
theorem AW_arrayAt {x ix : Operand} {j o o' len sz : Nat} {k : IntKind} {m : Int} {at_ e : TypeId} (hd : Nat.blt d n = true) (hu : P.underlying at_ = some (.array len e)) (hs : (P.info? e).map (·.size) = some sz) (hx : ASt.ev ⟨tm, bx, nb⟩ x = some (.val (.one (.ptr j o)))) (hi : ASt.ev ⟨tm, bx, nb⟩ ix = some (.val (.one (.i k m)))) (h0 : decide (0 ≤ m ∧ m < (len : Int)) = true) (ho : o + m.toNat * sz = o')
    (h : AW P n all draw ((.val (.one (.ptr j o')), .no) :: acc) ⟨(d, .val (.one (.ptr j o'))) :: tm, bx, nb⟩ ops K) : AW P n all draw acc ⟨tm, bx, nb⟩ (⟨some d, .indexAddr at_ x ix, ty, pos, aft, none⟩ :: ops) K :=
  AW_quiet hd (q_arrayAt hx hi hu hs h0 ho) h
theorem AW_ints {st e : TypeId} {len : Nat} {parts : List (Nat × Operand)} {xs : List Raw} {ie : TypeInfo} {z : Value} (hd : Nat.blt d n = true) (hu : P.underlying st = some (.slice e)) (hi : P.info? e = some ie) (hs : ie.size = 2) (hz : ie.zero = some z) (hl : Nat.beq len parts.length = true) (hn : Nat.ble 1 len = true) (hn2 : Nat.ble len 1000 = true)
    (hp : EvInts (ASt.ev ⟨tm, bx, nb⟩) 0 parts xs) (h : AW P n all draw ((.val (.one (.st (polyP xs))), .no) :: acc) ⟨(d, .val (.one (.st (polyP xs)))) :: tm, bx, nb⟩ ops K) : AW P n all draw acc ⟨tm, bx, nb⟩ (⟨some d, .buildSlice st len parts.toArray, ty, pos, aft, none⟩ :: ops) K :=
  AW_quiet hd (q_ints hl hn hn2 hu hi hs hz hp) h
theorem AW_pickT {c x y : Operand} {v : AR} (hd : Nat.blt d n = true) (hc : ASt.ev ⟨tm, bx, nb⟩ c = some (.val (.one (.b true)))) (hx : ASt.ev ⟨tm, bx, nb⟩ x = some v) (h : AW P n all draw ((v, .no) :: acc) ⟨(d, v) :: tm, bx, nb⟩ ops K) : AW P n all draw acc ⟨tm, bx, nb⟩ (⟨some d, .pick c x y, ty, pos, aft, none⟩ :: ops) K :=
  AW_quiet hd (q_pickT hc hx) h
theorem AW_pickF {c x y : Operand} {v : AR} (hd : Nat.blt d n = true) (hc : ASt.ev ⟨tm, bx, nb⟩ c = some (.val (.one (.b false)))) (hx : ASt.ev ⟨tm, bx, nb⟩ y = some v) (h : AW P n all draw ((v, .no) :: acc) ⟨(d, v) :: tm, bx, nb⟩ ops K) : AW P n all draw acc ⟨tm, bx, nb⟩ (⟨some d, .pick c x y, ty, pos, aft, none⟩ :: ops) K :=
  AW_quiet hd (q_pickF hc hx) h
section
variable {jg gd : Nat} {b t : Bool} (hgd : dstIn all jg = some gd) (ht : look tm gd = some (.val (.one (.b t)))) (hb : (t == b) = true) (hd : Nat.blt d n = true)
include hgd ht hb hd
theorem AW_pickTg {c x y : Operand} {v : AR} (hc : ASt.ev ⟨tm, bx, nb⟩ c = some (.val (.one (.b true)))) (hx : ASt.ev ⟨tm, bx, nb⟩ x = some v) (h : AW P n all draw ((v, .no) :: acc) ⟨(d, v) :: tm, bx, nb⟩ ops K) : AW P n all draw acc ⟨tm, bx, nb⟩ (⟨some d, .pick c x y, ty, pos, aft, some (jg, b)⟩ :: ops) K :=
  AW_quietg hgd ht hb hd (q_pickT hc hx) h
theorem AW_pickFg {c x y : Operand} {v : AR} (hc : ASt.ev ⟨tm, bx, nb⟩ c = some (.val (.one (.b false)))) (hx : ASt.ev ⟨tm, bx, nb⟩ y = some v) (h : AW P n all draw ((v, .no) :: acc) ⟨(d, v) :: tm, bx, nb⟩ ops K) : AW P n all draw acc ⟨tm, bx, nb⟩ (⟨some d, .pick c x y, ty, pos, aft, some (jg, b)⟩ :: ops) K :=
  AW_quietg hgd ht hb hd (q_pickF hc hx) h
theorem AW_moveg {x : Operand} {v : AR} (hx : ASt.ev ⟨tm, bx, nb⟩ x = some v) (h : AW P n all draw ((v, .no) :: acc) ⟨(d, v) :: tm, bx, nb⟩ ops K) : AW P n all draw acc ⟨tm, bx, nb⟩ (⟨some d, .move x, ty, pos, aft, some (jg, b)⟩ :: ops) K :=
  AW_quietg hgd ht hb hd (q_move hx) h
theorem AW_notg {x : Operand} {xt : TypeId} {t' : Bool} (hx : ASt.ev ⟨tm, bx, nb⟩ x = some (.val (.one (.b t')))) (h : AW P n all draw ((.val (.one (.b (!t'))), .no) :: acc) ⟨(d, .val (.one (.b (!t')))) :: tm, bx, nb⟩ ops K) : AW P n all draw acc ⟨tm, bx, nb⟩ (⟨some d, .unOp .not xt x, ty, pos, aft, some (jg, b)⟩ :: ops) K :=
  AW_quietg hgd ht hb hd (q_not hx) h
theorem AW_eqg {x y : Operand} {xt yt : TypeId} {k : IntKind} {m m' : Int} (hx : ASt.ev ⟨tm, bx, nb⟩ x = some (.val (.one (.i k m)))) (hy : ASt.ev ⟨tm, bx, nb⟩ y = some (.val (.one (.i k m')))) (h : AW P n all draw ((.val (.one (.b (m == m'))), .no) :: acc) ⟨(d, .val (.one (.b (m == m')))) :: tm, bx, nb⟩ ops K) : AW P n all draw acc ⟨tm, bx, nb⟩ (⟨some d, .binOp .eql xt x y yt, ty, pos, aft, some (jg, b)⟩ :: ops) K :=
  AW_quietg hgd ht hb hd (q_eq hx hy) h
theorem AW_neg {x y : Operand} {xt yt : TypeId} {k : IntKind} {m m' : Int} (hx : ASt.ev ⟨tm, bx, nb⟩ x = some (.val (.one (.i k m)))) (hy : ASt.ev ⟨tm, bx, nb⟩ y = some (.val (.one (.i k m')))) (h : AW P n all draw ((.val (.one (.b (m != m'))), .no) :: acc) ⟨(d, .val (.one (.b (m != m')))) :: tm, bx, nb⟩ ops K) : AW P n all draw acc ⟨tm, bx, nb⟩ (⟨some d, .binOp .neq xt x y yt, ty, pos, aft, some (jg, b)⟩ :: ops) K :=
  AW_quietg hgd ht hb hd (q_ne hx hy) h
theorem AW_ltg {x y : Operand} {xt yt : TypeId} {k : IntKind} {m m' : Int} (hx : ASt.ev ⟨tm, bx, nb⟩ x = some (.val (.one (.i k m)))) (hy : ASt.ev ⟨tm, bx, nb⟩ y = some (.val (.one (.i k m')))) (h : AW P n all draw ((.val (.one (.b (decide (m < m')))), .no) :: acc) ⟨(d, .val (.one (.b (decide (m < m'))))) :: tm, bx, nb⟩ ops K) : AW P n all draw acc ⟨tm, bx, nb⟩ (⟨some d, .binOp .lss xt x y yt, ty, pos, aft, some (jg, b)⟩ :: ops) K :=
  AW_quietg hgd ht hb hd (q_lt hx hy) h
end
theorem q_beq {ev : Operand → Option AR} {dd : Option Nat} {x y : Operand} {xt yt : TypeId} {a c : Bool} {g : Option (Nat × Bool)} (hx : ev x = some (.val (.one (.b a)))) (hy : ev y = some (.val (.one (.b c)))) (hu : P.underlying xt = some .bool) : Quiet P ⟨dd, .binOp .eql xt x y yt, ty, pos, aft, g⟩ ev (.val (.one (.b (a == c)))) :=
  q_of2 hx hy (by simp [Op.operands]) (by simp [Op.operands]) fun G β w U ρ _ hk _ hk' => by
    have hk : ρ x = .bool a := hk
    have hk' : ρ y = .bool c := hk'
    have he : (Op.equal xt (.bool a) (.bool c)).run P w = .ok (a == c) w := by
      show (Op.equalIn (9999 + 1) xt (.bool a) (.bool c)).run P w = _
      unfold Op.equalIn
      rw [Sem.run_bind, run_underlying hu w]
      rfl
    exact ⟨.bool (a == c), by simp [execOp, eqGuard, binOp, hk, hk', he], rfl, trivial⟩
theorem AW_beq {x y : Operand} {xt yt : TypeId} {a c : Bool} (hd : Nat.blt d n = true) (hu : P.underlying xt = some .bool) (hx : ASt.ev ⟨tm, bx, nb⟩ x = some (.val (.one (.b a)))) (hy : ASt.ev ⟨tm, bx, nb⟩ y = some (.val (.one (.b c)))) (h : AW P n all draw ((.val (.one (.b (a == c))), .no) :: acc) ⟨(d, .val (.one (.b (a == c)))) :: tm, bx, nb⟩ ops K) : AW P n all draw acc ⟨tm, bx, nb⟩ (⟨some d, .binOp .eql xt x y yt, ty, pos, aft, none⟩ :: ops) K :=
  AW_quiet hd (q_beq hx hy hu) h
theorem q_bne {ev : Operand → Option AR} {dd : Option Nat} {x y : Operand} {xt yt : TypeId} {a c : Bool} {g : Option (Nat × Bool)} (hx : ev x = some (.val (.one (.b a)))) (hy : ev y = some (.val (.one (.b c)))) (hu : P.underlying xt = some .bool) : Quiet P ⟨dd, .binOp .neq xt x y yt, ty, pos, aft, g⟩ ev (.val (.one (.b (a != c)))) :=
  q_of2 hx hy (by simp [Op.operands]) (by simp [Op.operands]) fun G β w U ρ _ hk _ hk' => by
    have hk : ρ x = .bool a := hk
    have hk' : ρ y = .bool c := hk'
    have he : (Op.equal xt (.bool a) (.bool c)).run P w = .ok (a == c) w := by
      show (Op.equalIn (9999 + 1) xt (.bool a) (.bool c)).run P w = _
      unfold Op.equalIn
      rw [Sem.run_bind, run_underlying hu w]
      rfl
    exact ⟨.bool (a != c), by simp [execOp, eqGuard, binOp, hk, hk', he]; cases a <;> cases c <;> rfl, rfl, trivial⟩
theorem AW_bne {x y : Operand} {xt yt : TypeId} {a c : Bool} (hd : Nat.blt d n = true) (hu : P.underlying xt = some .bool) (hx : ASt.ev ⟨tm, bx, nb⟩ x = some (.val (.one (.b a)))) (hy : ASt.ev ⟨tm, bx, nb⟩ y = some (.val (.one (.b c)))) (h : AW P n all draw ((.val (.one (.b (a != c))), .no) :: acc) ⟨(d, .val (.one (.b (a != c)))) :: tm, bx, nb⟩ ops K) : AW P n all draw acc ⟨tm, bx, nb⟩ (⟨some d, .binOp .neq xt x y yt, ty, pos, aft, none⟩ :: ops) K :=
  AW_quiet hd (q_bne hx hy hu) h
/-- A pointer to a cell that is only read. -/
def slotP (p : Pred) : Pred where
  is := fun G w v => ∃ ad u, v = .pointer (some ad) ∧ ¬ G ad.block ∧ ad.block < w.heap.size ∧ w.cell? ad = some u ∧ p.is G w u
  cell := by
    rintro G w v ⟨ad, _, rfl, _⟩
    exact ⟨fun _ => by simp, rfl⟩
  stay := by
    rintro G w w' v ⟨ad, u, rfl, hG, hb, h1, h2⟩ m
    have h3 := p.stay h2 m
    obtain ⟨H, hH, e⟩ := m.ext
    have hblk : w'.heap[ad.block]? = w.heap[ad.block]? := e.block _ hb fun h => hG (hH _ h)
    exact ⟨ad, u, rfl, hG, Nat.lt_of_lt_of_le hb e.size, by rw [cell_of_block (w := w) hblk]; exact h1, h3⟩
  grow := by
    rintro G G' w v ⟨ad, u, rfl, hG, hb, h1, h2⟩ hg
    refine ⟨ad, u, rfl, fun h => ?_, hb, h1, p.grow h2 hg⟩
    rcases hg _ h with h | h
    · exact hG h
    · omega
theorem AW_recMag {x : Operand} {r : Raw} {st : TypeId} {fields : Array Field} {fd : Field} (hd : Nat.blt d n = true) (hu : P.underlying st = some (.struct fields)) (hf : fields[1]? = some fd) (ho : fd.offset = 1) (hs : (P.info? fd.type).map (·.size) = some 1) (hx : ASt.ev ⟨tm, bx, nb⟩ x = some (.val (.one (.st (recP r)))))
    (h : AW P n all draw ((.val (.one (.st (slotP (magP r.2)))), .no) :: acc) ⟨(d, .val (.one (.st (slotP (magP r.2))))) :: tm, bx, nb⟩ ops K) : AW P n all draw acc ⟨tm, bx, nb⟩ (⟨some d, .fieldAddr st x 1, ty, pos, aft, none⟩ :: ops) K := by
  refine AW_quiet hd (q_of hx (by simp [Op.operands]) fun G β w U ρ _ hk => ?_) h
  obtain ⟨ad, Am, l, c, he, hG, hb, h1, h2, h3, h4, h5⟩ := hk
  refine ⟨.pointer (some ⟨ad.block, ad.off + 1, none⟩), ?_, ⟨⟨ad.block, ad.off + 1, none⟩, _, rfl, hG, hb, h2, ⟨Am, l, c, rfl, h3, h4, h5⟩⟩, trivial⟩
  cases hq : P.info? fd.type with
  | none => simp [hq] at hs
  | some i =>
    have hsz : i.size = 1 := by simpa [hq] using hs
    have hadd : ad.add 1 = ⟨ad.block, ad.off + 1, none⟩ := by unfold Addr.add; rw [if_neg (by omega)]
    simp [execOp, he, Instr.fieldAt, Sem.run_bind, run_underlying hu, hf, Instr.sureAddr, fieldPlace, sizeOf, typeInfo, hq, hsz, ho, hadd]
theorem AW_slot {x : Operand} {p : Pred} {lt : TypeId} (hd : Nat.blt d n = true) (hty : TyI P lt 1 false) (hx : ASt.ev ⟨tm, bx, nb⟩ x = some (.val (.one (.st (slotP p))))) (h : AW P n all draw ((.val (.one (.st p)), .no) :: acc) ⟨(d, .val (.one (.st p))) :: tm, bx, nb⟩ ops K) :
    AW P n all draw acc ⟨tm, bx, nb⟩ (⟨some d, .load lt x, ty, pos, aft, none⟩ :: ops) K := by
  refine AW_quiet hd (q_of hx (by simp [Op.operands]) fun G β w U ρ _ hk => ?_) h
  obtain ⟨ad, u, he, hG, hb, h1, h2⟩ := hk
  have hl := hty.loadA w ad [u] (fun j v hv => by
    rcases j with _ | j
    · simp at hv; subst hv
      have hz : ad.add 0 = ad := by unfold Addr.add; rw [if_pos rfl]
      rw [hz]; exact h1
    · simp at hv) rfl
  refine ⟨u, ?_, h2, trivial⟩
  unfold execOp
  simp only [he, Instr.loadAt, Instr.sureAddr, Sem.run_bind, Sem.run_pure, Result.andThen_ok, hl]
  rfl
theorem AW_recAt {x : Operand} {r : Raw} {lt : TypeId} (hd : Nat.blt d n = true) (hty : TyI P lt 2 true) (hx : ASt.ev ⟨tm, bx, nb⟩ x = some (.val (.one (.st (recP r))))) (h : AW P n all draw ((aNum r, .no) :: acc) ⟨(d, aNum r) :: tm, bx, nb⟩ ops K) :
    AW P n all draw acc ⟨tm, bx, nb⟩ (⟨some d, .load lt x, ty, pos, aft, none⟩ :: ops) K := AW_quiet hd (q_loadP hx hty) h
theorem AW_polyAt {x ix : Operand} {xs : List Raw} {k : Nat} {st e : TypeId} {r : Raw} (hd : Nat.blt d n = true) (hu : P.underlying st = some (.slice e)) (hs : (P.info? e).map (·.size) = some 2) (hx : ASt.ev ⟨tm, bx, nb⟩ x = some (.val (.one (.st (polyP xs))))) (hi : ASt.ev ⟨tm, bx, nb⟩ ix = some (.val (aI (k : Int)))) (hr : xs[k]? = some r)
    (h : AW P n all draw ((.val (.one (.st (recP r))), .no) :: acc) ⟨(d, .val (.one (.st (recP r)))) :: tm, bx, nb⟩ ops K) : AW P n all draw acc ⟨tm, bx, nb⟩ (⟨some d, .indexAddr st x ix, ty, pos, aft, none⟩ :: ops) K := AW_quiet hd (q_polyAt hx hi hr hu hs) h
/-- A contract serves what is known better. -/
def ArLe (r r' : AR) : Prop := ∀ (G : Nat → Prop) (β : Nat → Nat) (w : World) (v : Value), r.ok G β w v → r'.ok G β w v
theorem ArLe.refl (r : AR) : ArLe r r := fun _ _ _ _ h => h
def ArsLe : List AR → List AR → Prop
  | [], [] => True
  | a :: l, b :: l' => ArLe a b ∧ ArsLe l l'
  | _, _ => False
theorem oksR_le {G : Nat → Prop} {β : Nat → Nat} {w : World} : ∀ {a b : List AR} {vs : List Value}, ArsLe a b → oksR G β w a vs → oksR G β w b vs
  | [], [], [], _, _ => trivial
  | _ :: _, _ :: _, _ :: _, h, k => ⟨h.1 _ _ _ _ k.1, oksR_le h.2 k.2⟩
  | [], [], _ :: _, _, k => k.elim
  | _ :: _, _ :: _, [], _, k => k.elim
  | [], _ :: _, _, h, _ => h.elim
  | _ :: _, [], _, h, _ => h.elim
theorem Ct.weak {f : FuncId} {a b : List AR} {r : AR} (h : Ct P f b r) (hl : ArsLe a b) : Ct P f a r := ⟨h.enters, h.nop, fun G β w vals hG ha => h.calls G β w vals hG (oksR_le hl ha)⟩
section
variable {x y : Operand} {xt yt : TypeId} {k : IntKind} {m m' : Int} (hd : Nat.blt d n = true)
include hd
theorem AW_eq (hx : ASt.ev ⟨tm, bx, nb⟩ x = some (.val (.one (.i k m)))) (hy : ASt.ev ⟨tm, bx, nb⟩ y = some (.val (.one (.i k m')))) (h : AW P n all draw ((.val (.one (.b (m == m'))), .no) :: acc) ⟨(d, .val (.one (.b (m == m')))) :: tm, bx, nb⟩ ops K) : AW P n all draw acc ⟨tm, bx, nb⟩ (⟨some d, .binOp .eql xt x y yt, ty, pos, aft, none⟩ :: ops) K := AW_quiet hd (q_eq hx hy) h
theorem AW_ne (hx : ASt.ev ⟨tm, bx, nb⟩ x = some (.val (.one (.i k m)))) (hy : ASt.ev ⟨tm, bx, nb⟩ y = some (.val (.one (.i k m')))) (h : AW P n all draw ((.val (.one (.b (m != m'))), .no) :: acc) ⟨(d, .val (.one (.b (m != m')))) :: tm, bx, nb⟩ ops K) : AW P n all draw acc ⟨tm, bx, nb⟩ (⟨some d, .binOp .neq xt x y yt, ty, pos, aft, none⟩ :: ops) K := AW_quiet hd (q_ne hx hy) h
theorem AW_lt (hx : ASt.ev ⟨tm, bx, nb⟩ x = some (.val (.one (.i k m)))) (hy : ASt.ev ⟨tm, bx, nb⟩ y = some (.val (.one (.i k m')))) (h : AW P n all draw ((.val (.one (.b (decide (m < m')))), .no) :: acc) ⟨(d, .val (.one (.b (decide (m < m'))))) :: tm, bx, nb⟩ ops K) : AW P n all draw acc ⟨tm, bx, nb⟩ (⟨some d, .binOp .lss xt x y yt, ty, pos, aft, none⟩ :: ops) K := AW_quiet hd (q_lt hx hy) h
theorem AW_gt (hx : ASt.ev ⟨tm, bx, nb⟩ x = some (.val (.one (.i k m)))) (hy : ASt.ev ⟨tm, bx, nb⟩ y = some (.val (.one (.i k m')))) (h : AW P n all draw ((.val (.one (.b (decide (m' < m)))), .no) :: acc) ⟨(d, .val (.one (.b (decide (m' < m))))) :: tm, bx, nb⟩ ops K) : AW P n all draw acc ⟨tm, bx, nb⟩ (⟨some d, .binOp .gtr xt x y yt, ty, pos, aft, none⟩ :: ops) K := AW_quiet hd (q_gt hx hy) h
theorem AW_ge (hx : ASt.ev ⟨tm, bx, nb⟩ x = some (.val (.one (.i k m)))) (hy : ASt.ev ⟨tm, bx, nb⟩ y = some (.val (.one (.i k m')))) (h : AW P n all draw ((.val (.one (.b (decide (m' ≤ m)))), .no) :: acc) ⟨(d, .val (.one (.b (decide (m' ≤ m))))) :: tm, bx, nb⟩ ops K) : AW P n all draw acc ⟨tm, bx, nb⟩ (⟨some d, .binOp .geq xt x y yt, ty, pos, aft, none⟩ :: ops) K := AW_quiet hd (q_ge hx hy) h
theorem AW_add (hx : ASt.ev ⟨tm, bx, nb⟩ x = some (.val (.one (.i k m)))) (hy : ASt.ev ⟨tm, bx, nb⟩ y = some (.val (.one (.i k m')))) (h : AW P n all draw ((.val (.one (.i k (k.wrap (m + m')))), .no) :: acc) ⟨(d, .val (.one (.i k (k.wrap (m + m'))))) :: tm, bx, nb⟩ ops K) : AW P n all draw acc ⟨tm, bx, nb⟩ (⟨some d, .binOp .add xt x y yt, ty, pos, aft, none⟩ :: ops) K := AW_quiet hd (q_add hx hy) h
end
theorem AW_len {x : Operand} {L : List Nat} {st e : TypeId} (hd : Nat.blt d n = true) (hx : ASt.ev ⟨tm, bx, nb⟩ x = some (.val (.one (.st (magP L))))) (hu : P.underlying st = some (.slice e)) (h : AW P n all draw ((.val (aI (L.length : Int)), .no) :: acc) ⟨(d, .val (aI (L.length : Int))) :: tm, bx, nb⟩ ops K) :
    AW P n all draw acc ⟨tm, bx, nb⟩ (⟨some d, .call { callee := .builtin .len, args := #[x], argTypes := #[st] }, ty, pos, aft, none⟩ :: ops) K := AW_quiet hd (q_len hx rfl hu) h
theorem AW_lenPoly {x : Operand} {xs : List Raw} {st e : TypeId} (hd : Nat.blt d n = true) (hx : ASt.ev ⟨tm, bx, nb⟩ x = some (.val (.one (.st (polyP xs))))) (hu : P.underlying st = some (.slice e)) (h : AW P n all draw ((.val (aI (xs.length : Int)), .no) :: acc) ⟨(d, .val (aI (xs.length : Int))) :: tm, bx, nb⟩ ops K) :
    AW P n all draw acc ⟨tm, bx, nb⟩ (⟨some d, .call { callee := .builtin .len, args := #[x], argTypes := #[st] }, ty, pos, aft, none⟩ :: ops) K := AW_quiet hd (q_lenPoly hx rfl hu) h
/-- A law's contract, as the statement asks it. -/
theorem law_ct {f : FuncId} {args : List AR} {w : World} {vals : List Value} (h : Ct P f args (.val (aB true))) (ha : oksR (fun _ => False) id w args vals) :
    Calls P f vals.toArray w fun e w' => e = .returned (.bool true) ∧ Below w.heap.size w w' :=
  (h.calls (fun _ => False) id w vals (fun _ h => h.elim) ha).mono (by
    rintro e w' ⟨v, rfl, h1, h2⟩
    have h1 : v = .bool true := h1
    subst h1
    exact ⟨rfl, h2⟩)
end
end Go.Proofs.YtonbhpadoplpkaaGreat
/- An abstract machine: the program's types. -/
namespace Go.Proofs.YtonbhpadoplpkaaGreat
open Go.RowKit Go.Deep
theorem ty_bool : TyI Tryz.prog 4 1 false := tyI_one Tryz.underlying4 rfl (by kernel_rfl)
theorem ty_num : TyI Tryz.prog 24 2 true := tyI_row Tryz.underlying24 rfl (by kernel_rfl)
theorem oks_zero (G : Nat → Prop) (β : Nat → Nat) (w : World) : oks G β w [.b false, .st (magP [])] [.bool false, .slice none 0 0] := ⟨rfl, magP_nil G w, trivial⟩
theorem nop_all {cs : List AC} (h : cs.all AC.nop = true) : ∀ c ∈ cs, c.nop = true := List.all_eq_true.1 h
theorem plain_all {vs : List Value} (h : ∀ v ∈ vs, (∃ b, v = .bool b) ∨ v = .slice none 0 0) : ∀ v ∈ vs, NoLimb v ∧ v.oneCell' = true := by
  intro v hv
  rcases h v hv with ⟨b, rfl⟩ | rfl
  · exact ⟨noLimb_bool _, rfl⟩
  · exact ⟨noLimb_slice _ _ _, rfl⟩
theorem tz_num : TyZ Tryz.prog 24 [.b false, .st (magP [])] :=
  tyZ_of (i := (Tryz.prog.info? 24).getD default) (z := .agg #[.bool false, .slice none 0 0]) true [.bool false, .slice none 0 0] (by kernel_rfl) (by kernel_rfl) rfl (fun h => by cases h) (plain_all (by simp)) oks_zero (nop_all rfl)
theorem tb_num : TyB Tryz.prog 24 [(0, 1), (1, 1)] [.b false, .st (magP [])] :=
  tyB_struct (it := (Tryz.prog.info? 24).getD default) (z := .agg #[.bool false, .slice none 0 0]) [.bool false, .slice none 0 0] (by kernel_rfl) (by kernel_rfl) rfl Tryz.underlying24 (by kernel_rfl) oks_zero (nop_all rfl)
theorem tf_neg : TyF Tryz.prog 24 0 0 1 false := tyF_of false Tryz.underlying24 rfl rfl Tryz.underlying4 rfl (by kernel_rfl) (by decide) (fun _ => rfl)
theorem tf_mag : TyF Tryz.prog 24 1 1 1 false := tyF_of false Tryz.underlying24 rfl rfl Tryz.underlying22 rfl (by kernel_rfl) (by decide) (fun _ => rfl)
theorem tu_nums : Tryz.prog.underlying 38 = some (.slice 24) := by kernel_rfl
theorem ts_num : (Tryz.prog.info? 24).map (·.size) = some 2 := by kernel_rfl
theorem ti_num : Tryz.prog.info? 24 = some ((Tryz.prog.info? 24).getD default) := by kernel_rfl
theorem ti_size : ((Tryz.prog.info? 24).getD default).size = 2 := by kernel_rfl
theorem ti_zero : ((Tryz.prog.info? 24).getD default).zero = some (.agg #[.bool false, .slice none 0 0]) := by kernel_rfl
theorem ty_row : TyI Tryz.prog 77 6 true := tyI_row Tryz.underlying77 rfl (by kernel_rfl)
theorem ty_rows : TyI Tryz.prog 116 12 true := tyI_row Tryz.underlying116 rfl (by kernel_rfl)
def zcells : Nat → List Value
  | 0 => []
  | n + 1 => .bool false :: .slice none 0 0 :: zcells n
def zacs : Nat → List AC
  | 0 => []
  | n + 1 => .b false :: .st (magP []) :: zacs n
theorem oks_zeros (G : Nat → Prop) (β : Nat → Nat) (w : World) : ∀ n, oks G β w (zacs n) (zcells n)
  | 0 => trivial
  | n + 1 => ⟨rfl, magP_nil G w, oks_zeros G β w n⟩
theorem plain_zeros : ∀ n, ∀ v ∈ zcells n, NoLimb v ∧ v.oneCell' = true
  | 0, v, h => by cases h
  | n + 1, v, h => by
    simp only [zcells, List.mem_cons] at h
    rcases h with rfl | rfl | h
    · exact ⟨noLimb_bool _, rfl⟩
    · exact ⟨noLimb_slice _ _ _, rfl⟩
    · exact plain_zeros n v h
theorem tz_row : TyZ Tryz.prog 77 [.b false, .st (magP []), .b false, .st (magP []), .b false, .st (magP [])] :=
  tyZ_of (i := (Tryz.prog.info? 77).getD default) (z := .agg (zcells 3).toArray) true (zcells 3) (by kernel_rfl) (by kernel_rfl) rfl (fun h => by cases h) (plain_zeros 3) (fun G β w => oks_zeros G β w 3) (nop_all rfl)
theorem tz_rows : TyZ Tryz.prog 116 [.b false, .st (magP []), .b false, .st (magP []), .b false, .st (magP []), .b false, .st (magP []), .b false, .st (magP []), .b false, .st (magP [])] :=
  tyZ_of (i := (Tryz.prog.info? 116).getD default) (z := .agg (zcells 6).toArray) true (zcells 6) (by kernel_rfl) (by kernel_rfl) rfl (fun h => by cases h) (plain_zeros 6) (fun G β w => oks_zeros G β w 6) (nop_all rfl)
theorem tb_row : TyB Tryz.prog 77 [(0, 2), (2, 4)] [.b false, .st (magP []), .b false, .st (magP []), .b false, .st (magP [])] :=
  tyB_struct (it := (Tryz.prog.info? 77).getD default) (z := .agg (zcells 3).toArray) (zcells 3) (by kernel_rfl) (by kernel_rfl) rfl Tryz.underlying77 (by kernel_rfl) (fun G β w => oks_zeros G β w 3) (nop_all rfl)
theorem tb_rows : TyB Tryz.prog 116 [(0, 6), (6, 6)] [.b false, .st (magP []), .b false, .st (magP []), .b false, .st (magP []), .b false, .st (magP []), .b false, .st (magP []), .b false, .st (magP [])] :=
  tyB_array (it := (Tryz.prog.info? 116).getD default) (ie := (Tryz.prog.info? 77).getD default) (z := .agg (zcells 6).toArray) (zcells 6) (by kernel_rfl) (by kernel_rfl) rfl Tryz.underlying116 (by kernel_rfl)
    (fun i p h => by
      have e : ((Tryz.prog.info? 77).getD default).size = 6 := by kernel_rfl
      rw [e]
      rcases i with _ | _ | i
      · simp at h; exact h.symm
      · simp at h; exact h.symm
      · simp at h) (fun G β w => oks_zeros G β w 6) (nop_all rfl)
theorem tf_row0 : TyF Tryz.prog 77 0 0 2 true := tyF_of true Tryz.underlying77 rfl rfl Tryz.underlying24 rfl (by kernel_rfl) (by decide) (fun h => by cases h)
theorem tf_row1 : TyF Tryz.prog 77 1 2 4 true := tyF_of true Tryz.underlying77 rfl rfl Tryz.underlying75 rfl (by kernel_rfl) (by decide) (fun h => by cases h)
theorem ts_row : (Tryz.prog.info? 77).map (·.size) = some 6 := by kernel_rfl
theorem tm_mixed : Tryz.prog.follows .mixedOrders = true := by kernel_rfl
end Go.Proofs.YtonbhpadoplpkaaGreat
/- The package gcd: size, zero. -/
namespace Go.Proofs.YtonbhpadoplpkaaGreat
open Go.RowKit Go.Deep
set_option maxRecDepth 100000 in
theorem gcd_size (v : Value) (x : Raw) (w : World) (hv : RawV w v x) (hl : x.2.length ≤ 1099511627776) :
    Calls Tryz.prog 66 #[v] w fun e w' => ∃ u, e = .returned u ∧ RawAt w' w.heap.size u (false, x.2) ∧ Below w.heap.size w w' := by
  obtain ⟨b1, A1, l1, c1, rfl, HV⟩ := hv.open
  have HP := Lib.hid HV.out.parts
  have HLE := Lib.hid (show ([] : List Nat).length + x.2.length ≤ 17592186044416 by simp; omega)
  clear hv hl
  go_enter Tryz.func66, Tryz.ntmps66
  go_upto_region 1 with (fail)
  obtain ⟨W0, g, r, hW, hg, hr, bx, br, G_g, S_W0, hb⟩ := boxH2 w (.bool b1) (.slice A1 l1 c1) (.bool false) (.slice none 0 0)
  rw [hW, hr, hg]
  replace HV := Lib.hid (HV.out.stay hb)
  have B_W0 := Lib.hid (show Since w W0 from hb)
  clear hW hg hr hb
  have a0 := bx.out.cell0
  have a1 := bx.out.cell1
  go_wp2_with (at_builtin; refine append_lim (w0 := W0) W0.heap.size rfl _ _ rfl _ [] A1 l1 c1 x.2 (by rfl) (by rfl) HP.out.2.1 HV.out.parts.2.2.2 (Own.nil _ _) (Below.refl _ _) (Nat.le_refl _) HLE.out fun v1 w1 hown hbel _ _ => ?_; obtain ⟨A2, c2, hv, hc, hlim, _⟩ := hown.form; rw [List.nil_append] at hv hc hlim; subst hv; have HN := Lib.hid (show RawAt w1 W0.heap.size (.agg #[.bool false, .slice A2 x.2.length c2]) (false, x.2) from ⟨A2, _, c2, rfl, rfl, hc, hlim, hown.fresh⟩); replace br := Lib.hid (br.out.stay hbel); replace B_W0 := Lib.hid (show Since w w1 from B_W0.out.trans (hbel.mono B_W0.out.size)); clear hown hc hlim hbel a0 a1; have k0 := br.out.cell0; have k1 := br.out.cell1; have fr := br.out.free)
  refine bodyPost_ret (results_cell_row rfl _ _ r 24 #[.bool false, (.slice A2 x.2.length c2)] (0, 0) _ (by rfl) br.out.store Tryz.underlying24 rfl (by kernel_rfl)) rfl ?_
  obtain ⟨W2, hW2, br', p⟩ := br.out.write (.bool false) (.slice A2 x.2.length c2)
  rw [hW2]
  exact ⟨_, rfl, (HN.out.put p).since (by have := G_g.out; have := S_W0.out; omega), B_W0.out.put p (by have := G_g.out; omega)⟩
set_option maxRecDepth 100000 in
theorem gcd_zero (v : Value) (x : Raw) (w : World) (hv : RawV w v x) :
    Calls Tryz.prog 65 #[v] w fun e w' => e = .returned (.bool (decide (x.2.length = 0))) ∧ Below w.heap.size w w' := by
  obtain ⟨b1, A1, l1, c1, rfl, HV⟩ := hv.open
  have HP := Lib.hid HV.out.parts
  clear hv
  go_enter Tryz.func65, Tryz.ntmps65
  go_wp2_with fail
  obtain ⟨W0, g, hW, hg, bx, G_g, S_W0, hb⟩ := boxH w (.bool b1) (.slice A1 l1 c1)
  rw [hW, hg]
  replace HV := Lib.hid (HV.out.stay hb)
  have B_W0 := Lib.hid (show Since w W0 from hb)
  clear hW hg hb
  have a0 := bx.out.cell0
  have a1 := bx.out.cell1
  go_wp2_with fail
  go_ret
  refine ⟨?_, G_g.out ▸ B_W0.out⟩
  rw [← HP.out.2.1]
  by_cases h : l1 = 0
  · subst h; rfl
  · rw [decide_eq_false h, ← (show ((l1 : Int) == 0) = false from beq_eq_false_iff_ne.2 (by omega))]; rfl
end Go.Proofs.YtonbhpadoplpkaaGreat
/- Long division, plain: a guess of a quotient's limb, from three limbs and two. -/
namespace Go.Proofs.YtonbhpadoplpkaaGreat
/-- What a guess is: not too small, and not much too great. -/
structure Guess (hi lo next top below g : Nat) : Prop where
  lt : g < W64
  ge : ∀ t, t < W64 → t * (top * W64 + below) ≤ (hi * W64 + lo) * W64 + next → t ≤ g
  le : g * top ≤ hi * W64 + lo ∨ top ≤ hi
/-- The state of the loop that makes it less. -/
structure Guessing (hi lo next top below q r : Nat) : Prop where
  lt : q < W64
  sum : q * top + r = hi * W64 + lo
  ge : ∀ t, t < W64 → t * (top * W64 + below) ≤ (hi * W64 + lo) * W64 + next → t ≤ q
theorem Guess.most {hi lo next top below : Nat} (h : top ≤ hi) : Guess hi lo next top below (W64 - 1) :=
  ⟨by have := W64_pos; omega, fun t ht _ => by omega, .inr h⟩
theorem alg_guess (W t top below r next q : Nat) (h : q * below = r * W + next + 1 + t) : q * (top * W + below) = (q * top + r) * W + next + 1 + t := by
  rw [Nat.mul_add, h, Nat.add_mul, ← Nat.mul_assoc]; omega
theorem Guessing.start {hi lo next top below : Nat} (ht : 0 < top) (hh : hi < top) (hl : lo < W64) (hn : next < W64) : Guessing hi lo next top below ((hi * W64 + lo) / top) ((hi * W64 + lo) % top) := by
  refine ⟨?_, ?_, fun t _ h => ?_⟩
  · rw [Nat.div_lt_iff_lt_mul ht]
    have := Nat.mul_le_mul_right W64 (show hi + 1 ≤ top from hh)
    rw [Nat.add_mul, Nat.one_mul] at this
    rw [Nat.mul_comm W64 top]; omega
  · rw [Nat.mul_comm]; exact Nat.div_add_mod _ _
  · refine (Nat.le_div_iff_mul_le ht).2 ?_
    rcases Nat.lt_or_ge (hi * W64 + lo) (t * top) with h1 | h1
    · exfalso
      have h2 := Nat.mul_le_mul_right W64 (show hi * W64 + lo + 1 ≤ t * top from h1)
      rw [Nat.add_mul _ 1, Nat.one_mul] at h2
      rw [Nat.mul_add, ← Nat.mul_assoc] at h
      omega
    · exact h1
theorem Guessing.stop {hi lo next top below q r : Nat} (h : Guessing hi lo next top below q r) : Guess hi lo next top below q :=
  ⟨h.lt, h.ge, .inl (by have := h.sum; omega)⟩
theorem Guessing.less {hi lo next top below q r : Nat} (h : Guessing hi lo next top below q r) (hb : r * W64 + next < q * below) : 1 ≤ q ∧ Guessing hi lo next top below (q - 1) (r + top) := by
  have hq : 1 ≤ q := by
    rcases Nat.eq_zero_or_pos q with h0 | h0
    · rw [h0, Nat.zero_mul] at hb; omega
    · exact h0
  obtain ⟨p, rfl⟩ : ∃ p, q = p + 1 := ⟨q - 1, by omega⟩
  have hs := h.sum
  have hl := h.lt
  refine ⟨hq, ⟨by omega, by rw [Nat.add_sub_cancel]; rw [Nat.add_mul, Nat.one_mul] at hs; omega, fun t h1 h2 => ?_⟩⟩
  have h3 := h.ge t h1 h2
  rcases Nat.lt_or_eq_of_le h3 with h4 | h4
  · omega
  · exfalso
    subst h4
    obtain ⟨d, hd⟩ : ∃ d, (p + 1) * below = r * W64 + next + 1 + d := ⟨(p + 1) * below - (r * W64 + next + 1), by omega⟩
    have h5 := alg_guess W64 d top below r next (p + 1) hd
    rw [hs] at h5
    omega
/-- The guess of a window: not below the quotient, and too much by less than one limb more. -/
theorem guess_window {win vs : List Nat} (hw : Small win) (hv : Small vs) {n : Nat} (hvl : vs.length = n + 2) (hwl : win.length = n + 3) {g : Nat}
    (h : Guess (win.getD (n + 2) 0) (win.getD (n + 1) 0) (win.getD n 0) (vs.getD (n + 1) 0) (vs.getD n 0) g) (hQ : val win < val vs * W64) :
    val win / val vs ≤ g ∧ g * val vs < val win + W64 ^ (n + 2) := by
  have e1 : val win = val (win.take n) + W64 ^ n * ((win.getD (n + 2) 0 * W64 + win.getD (n + 1) 0) * W64 + win.getD n 0) := by
    have h3 := val_split win n (by omega)
    have h4 := val_drop_step win n (by omega)
    have h5 := val_drop_step win (n + 1) (by omega)
    have h6 := val_drop_step win (n + 1 + 1) (by omega)
    rw [List.drop_of_length_le (i := n + 1 + 1 + 1) (by omega), val_nil, Nat.mul_zero, Nat.add_zero] at h6
    rw [h3, h4, h5, h6]
    congr 2
    show win.getD n 0 + W64 * (win.getD (n + 1) 0 + W64 * win.getD (n + 2) 0) = _
    generalize win.getD n 0 = a
    generalize win.getD (n + 1) 0 = b
    generalize win.getD (n + 2) 0 = c
    grind
  have e2 : val vs = val (vs.take n) + W64 ^ n * (vs.getD (n + 1) 0 * W64 + vs.getD n 0) := by
    have h3 := val_split vs n (by omega)
    have h4 := val_drop_step vs n (by omega)
    have h5 := val_drop_step vs (n + 1) (by omega)
    rw [List.drop_of_length_le (i := n + 1 + 1) (by omega), val_nil, Nat.mul_zero, Nat.add_zero] at h5
    rw [h3, h4, h5]
    congr 2
    generalize vs.getD n 0 = a
    generalize vs.getD (n + 1) 0 = b
    grind
  have h6 := val_lt (hw.take n)
  rw [List.length_take, Nat.min_eq_left (by omega)] at h6
  have h7 := val_lt (hv.take n)
  rw [List.length_take, Nat.min_eq_left (by omega)] at h7
  have h8 := hv.getD n
  have h9 := hw.getD n
  have hg := h.lt
  constructor
  · have hQ2 : val win / val vs < W64 := Nat.div_lt_of_lt_mul hQ
    refine h.ge _ hQ2 ?_
    have h1 := Nat.div_mul_le_self (val win) (val vs)
    generalize val win / val vs = Q at *
    rw [e1, e2] at h1
    generalize (win.getD (n + 2) 0 * W64 + win.getD (n + 1) 0) * W64 + win.getD n 0 = t at *
    generalize vs.getD (n + 1) 0 * W64 + vs.getD n 0 = v at *
    generalize val (vs.take n) = a at *
    generalize val (win.take n) = b at *
    generalize W64 ^ n = P at *
    rcases Nat.lt_or_ge t (Q * v) with h | h
    · exfalso
      have h7 := Nat.mul_le_mul_left P (show t + 1 ≤ Q * v from h)
      have h8 : Q * (a + P * v) = Q * a + P * (Q * v) := by grind
      rw [Nat.mul_add, Nat.mul_one] at h7
      have : 0 ≤ Q * a := Nat.zero_le _
      omega
    · exact h
  · rw [e1, e2, Nat.pow_add]
    have hle := h.le
    have hP : 0 < W64 ^ n := Nat.pow_pos W64_pos
    generalize win.getD (n + 2) 0 = hi at *
    generalize win.getD (n + 1) 0 = lo at *
    generalize win.getD n 0 = nx at *
    generalize vs.getD (n + 1) 0 = top at *
    generalize vs.getD n 0 = bl at *
    generalize val (vs.take n) = a at *
    generalize val (win.take n) = b at *
    generalize W64 ^ n = P at *
    -- g (a + P (top W + bl)) < g P (top W + W)
    have k1 : a + P * (top * W64 + bl) < P * ((top + 1) * W64) := by
      have k2 : P * (bl + 1) ≤ P * W64 := Nat.mul_le_mul_left P h8
      rw [Nat.mul_add, Nat.mul_one] at k2
      rw [Nat.mul_add, Nat.add_mul, Nat.one_mul, Nat.mul_add]
      omega
    have k3 : g * (a + P * (top * W64 + bl)) ≤ g * (P * ((top + 1) * W64)) := Nat.mul_le_mul_left g (Nat.le_of_lt k1)
    have k4 : g * (P * ((top + 1) * W64)) = P * ((g * top + g) * W64) := by grind
    rw [k4] at k3
    have k5 : g * top + g < hi * W64 + lo + W64 := by
      rcases hle with h | h
      · omega
      · have k6 := Nat.mul_le_mul (show g + 1 ≤ W64 from hg) (show top + 1 ≤ hi + 1 by omega)
        rw [Nat.mul_add, Nat.mul_one, Nat.add_mul, Nat.one_mul, Nat.mul_add, Nat.mul_one, Nat.mul_comm W64 hi] at k6
        omega
    have k7 : P * ((g * top + g) * W64) + P * W64 ≤ P * ((hi * W64 + lo + W64) * W64) := by
      rw [← Nat.mul_add]
      refine Nat.mul_le_mul_left P ?_
      have := Nat.mul_le_mul_right W64 (show g * top + g + 1 ≤ hi * W64 + lo + W64 from k5)
      rwa [Nat.add_mul _ 1, Nat.one_mul] at this
    have k8 : P * ((hi * W64 + lo + W64) * W64) = P * ((hi * W64 + lo) * W64) + P * W64 ^ 2 := by
      rw [Nat.add_mul, Nat.mul_add, Nat.pow_two]
    have k9 : 0 < P * W64 := Nat.mul_pos hP W64_pos
    rw [Nat.mul_add P _ nx]
    omega
end Go.Proofs.YtonbhpadoplpkaaGreat
/- The package divide: guess, take, give. -/
namespace Go.Proofs.YtonbhpadoplpkaaGreat
open Go.RowKit Go.Deep
theorem wrap_over {r t : Nat} (hr : r < W64) (ht : t < W64) (h : W64 ≤ r + t) : ∃ s : Nat, IntKind.u64.wrap ((r : Int) + (t : Int)) = (s : Int) ∧ s < t :=
  ⟨r + t - W64, by
    have hW := W64_eq
    rw [hW] at hr ht h
    rw [hW, IntKind.wrap_u64]
    omega, by omega⟩
theorem wrap_under {r t : Nat} (h : r + t < W64) : IntKind.u64.wrap ((r : Int) + (t : Int)) = ((r + t : Nat) : Int) := by
  rw [W64_eq] at h
  rw [IntKind.wrap_u64]
  omega
set_option maxHeartbeats 1000000 in
set_option maxRecDepth 100000 in
theorem divide_guess (hi lo next top below : Nat) (w : World) (_hhl : hi < W64) (hll : lo < W64) (hnl : next < W64) (htl : top < W64) (hbl : below < W64) (ht : 0 < top) :
    Calls Tryz.prog 131 #[.int .u64 (hi : Int), .int .u64 (lo : Int), .int .u64 (next : Int), .int .u64 (top : Int), .int .u64 (below : Int)] w fun e w' => ∃ g : Nat, e = .returned (.int .u64 (g : Int)) ∧ Guess hi lo next top below g ∧ ∃ q, w' = w.drewN q := by
  by_cases hge : top ≤ hi
  · have hgI : (top : Int) ≤ (hi : Int) := by omega
    have HGM := Lib.hid (Guess.most (lo := lo) (next := next) (below := below) hge)
    clear hge
    go_enter Tryz.func131, Tryz.ntmps131
    go_wp2_with fail
    go_ret
    exact ⟨W64 - 1, by rw [show ((W64 - 1 : Nat) : Int) = 18446744073709551615 by have := W64_eq; omega]; rfl, HGM.out, 0, rfl⟩
  · have hgI : ¬ (top : Int) ≤ (hi : Int) := by omega
    have hlt : hi < top := by omega
    have HST := Lib.hid (Guessing.start (below := below) ht hlt hll hnl)
    have HDIV := Lib.hid (bits_div64 hi lo top hll htl hlt)
    have HRL := Lib.hid (show (hi * W64 + lo) % top < W64 from Nat.lt_trans (Nat.mod_lt _ ht) htl)
    clear hge
    go_enter Tryz.func131, Tryz.ntmps131
    go_wp2_with fail
    refine (HDIV.out _).mono ?_
    rintro e w1 ⟨rfl, m0, rfl⟩
    obtain ⟨q0, hq0⟩ : ∃ q, (hi * W64 + lo) / top = q := ⟨_, rfl⟩
    obtain ⟨r0, hr0⟩ : ∃ q, (hi * W64 + lo) % top = q := ⟨_, rfl⟩
    rw [hq0, hr0] at HST
    rw [hr0] at HRL
    rw [hq0, hr0]
    clear hq0 hr0
    go_wp2_with fail
    go_loopw [11, 12] (fun t11 t12 wr => ∃ (q r : Nat), t11 = .int .u64 (q : Int) ∧ t12 = .int .u64 (r : Int) ∧ r < W64 ∧ Guessing hi lo next top below q r ∧ ∃ m, wr = w.drewN m) (fun t11 _ _ => (intOf t11).toNat)
    case atStart => exact ⟨q0, r0, rfl, rfl, HRL.out, HST.out, m0, rfl⟩
    case round =>
      obtain ⟨q, r, rfl, rfl, hr, hG, m, rfl⟩ := hrel
      have hql := hG.lt
      have hmul := Lib.hid (bits_mul64 q below hql hbl)
      have hsp := mul_split q below
      have HSTOP := Lib.hid hG.stop
      go_wp2_with fail
      refine (hmul.out _).mono ?_
      rintro e w1 ⟨rfl, rfl⟩
      obtain ⟨h, hh⟩ : ∃ h, mulHi q below = h := ⟨_, rfl⟩
      obtain ⟨l, hl⟩ : ∃ l, mulLo q below = l := ⟨_, rfl⟩
      rw [hh, hl] at hsp ⊢
      have hlW : l < W64 := hl ▸ mulLo_lt q below
      clear hh hl
      rcases Nat.lt_trichotomy h r with h1 | h1 | h1
      · have t1 : (h : Int) < (r : Int) := by omega
        clear h1
        go_wp2_with fail
        go_ret
        exact ⟨q, rfl, HSTOP.out, _, rfl⟩
      · rw [h1] at hsp ⊢
        clear h1
        by_cases h2 : l ≤ next
        · have t2 : (l : Int) ≤ (next : Int) := by omega
          clear h2
          go_wp2_with fail
          go_ret
          exact ⟨q, rfl, HSTOP.out, _, rfl⟩
        · have t2 : ¬ (l : Int) ≤ (next : Int) := by omega
          have hb : r * W64 + next < q * below := by rw [← hsp, Nat.mul_comm]; omega
          clear h2
          obtain ⟨hq1, hG2⟩ := hG.less hb
          have HG2 := Lib.hid hG2
          have hqI : (1 : Int) ≤ (q : Int) := by omega
          have hqW := lt_W64 hql
          by_cases hov : r + top < W64
          · have hw := wrap_under hov
            have hcmp : ¬ (((r + top : Nat) : Int) < (top : Int)) := by omega
            have HOV := Lib.hid hov
            clear hov
            go_wp2_with fail
            exact ⟨⟨q - 1, r + top, by congr 1; omega, rfl, HOV.out, HG2.out, _, rfl⟩, by simp [intOf]; omega⟩
          · obtain ⟨s, hw, hs⟩ := wrap_over hr htl (by omega)
            have hcmp : (s : Int) < (top : Int) := by omega
            clear hov
            go_wp2_with fail
            go_ret
            exact ⟨q - 1, by rw [show ((q - 1 : Nat) : Int) = (q : Int) - 1 by omega]; rfl, HG2.out.stop, _, rfl⟩
      · have t1 : ¬ (h : Int) < (r : Int) := by omega
        have t2 : ((h : Int) == (r : Int)) = false := beq_eq_false_iff_ne.2 (by omega)
        have hb : r * W64 + next < q * below := by
          have h5 := Nat.mul_le_mul_left W64 (show r + 1 ≤ h from h1)
          rw [Nat.mul_add, Nat.mul_one, Nat.mul_comm W64 r] at h5
          omega
        clear h1
        obtain ⟨hq1, hG2⟩ := hG.less hb
        have HG2 := Lib.hid hG2
        have hqI : (1 : Int) ≤ (q : Int) := by omega
        have hqW := lt_W64 hql
        by_cases hov : r + top < W64
        · have hw := wrap_under hov
          have hcmp : ¬ (((r + top : Nat) : Int) < (top : Int)) := by omega
          have HOV := Lib.hid hov
          clear hov
          go_wp2_with fail
          exact ⟨⟨q - 1, r + top, by congr 1; omega, rfl, HOV.out, HG2.out, _, rfl⟩, by simp [intOf]; omega⟩
        · obtain ⟨s, hw, hs⟩ := wrap_over hr htl (by omega)
          have hcmp : (s : Int) < (top : Int) := by omega
          clear hov
          go_wp2_with fail
          go_ret
          exact ⟨q - 1, by rw [show ((q - 1 : Nat) : Int) = (q : Int) - 1 by omega]; rfl, HG2.out.stop, _, rfl⟩
theorem Lim.off {w w' : World} {A : Option Addr} {xs : List Nat} {g : Nat} (h : Lim w w.heap.size A xs) (hg : w.grownBy w' (some g)) (hne : 0 < xs.length → ∀ ad, A = some ad → ad.block ≠ g) : Lim w' w'.heap.size A xs := by
  refine ⟨h.small, fun hn => ?_⟩
  obtain ⟨ad, ha, hb, hc⟩ := h.cells hn
  refine ⟨ad, ha, Nat.lt_of_lt_of_le hb hg.size, fun j hj => ?_⟩
  rw [cell_of_block (w := w)]
  · exact hc j hj
  · rw [block_of_add]
    exact hg.block _ hb (by intro e; injection e with e; exact hne hn ad ha e)
theorem drew_grown (w : World) (n : Nat) (k : Option Nat) : w.grownBy (w.drewN n) k := ⟨rfl, rfl, rfl, Nat.le_refl _, fun _ _ _ => rfl⟩
set_option maxHeartbeats 4000000 in
set_option maxRecDepth 100000 in
theorem divide_take (g p la ca c2 n q0 : Nat) (us : List Nat) (A2 : Option Addr) (vs : List Nat) (w : World) (hrow0 : Row w g us) (h2 : Lim w w.heap.size A2 vs) (hne : ∀ ad, A2 = some ad → ad.block ≠ g) (hvl : vs.length = n + 1) (hp : p + (n + 2) ≤ us.length) (hla : n + 2 ≤ la) (hul : us.length ≤ 1099511627776) (hq0W : q0 < W64) :
    Calls Tryz.prog 132 #[.slice (some ⟨g, p, none⟩) la ca, .slice A2 (n + 1) c2, .int .u64 (q0 : Int)] w fun e w' => ∃ (b : Nat) (us' : List Nat), e = .returned (.bool (decide (b = 1))) ∧ b ≤ 1 ∧ Row w' g us' ∧ us'.length = us.length ∧ us'.take p = us.take p ∧ us'.drop (p + (n + 2)) = us.drop (p + (n + 2)) ∧ val ((us'.drop p).take (n + 2)) + q0 * val vs = val ((us.drop p).take (n + 2)) + W64 ^ (n + 2) * b ∧ w.grownBy w' (some g) := by
  have nI : (n : Int) + 2 ≤ (la : Int) := by omega
  have nI2 : (n : Int) ≤ 1099511627776 := by omega
  have HVL := Lib.hid hvl
  have HP := Lib.hid hp
  have HUL := Lib.hid hul
  clear hvl hp hul hla
  go_enter Tryz.func132, Tryz.ntmps132
  go_wp2_with fail
  go_loopw [7, 8, 15] (fun t7 t8 t15 wr => ∃ (i b c : Nat) (os : List Nat), i ≤ n + 1 ∧ b ≤ 1 ∧ c < W64 ∧ t8 = .int .u64 (b : Int) ∧ t7 = .int .u64 (c : Int) ∧ t15 = .int .i64 (i : Int) ∧ Hid (os.length = us.length) ∧ Hid (Row wr g os) ∧ Hid (w.grownBy wr (some g)) ∧ Hid (os.take p = us.take p) ∧ Hid (os.drop (p + i) = us.drop (p + i)) ∧ Hid (val ((os.drop p).take i) + q0 * val (vs.take i) = val ((us.drop p).take i) + W64 ^ i * (b + c))) (fun _ _ t15 _ => n + 1 - (intOf t15).toNat)
  case atStart => exact ⟨0, 0, 0, us, by omega, by omega, W64_pos, rfl, rfl, rfl, Lib.hid rfl, Lib.hid hrow0, Lib.hid ⟨rfl, rfl, rfl, Nat.le_refl _, fun _ _ _ => rfl⟩, Lib.hid rfl, Lib.hid rfl, Lib.hid (by simp)⟩
  case round =>
    obtain ⟨i, b, c, os, hi, hb, hc, rfl, rfl, rfl, HO, HROW, HGR, HT, HD, HV⟩ := hrel
    have hil : p + (n + 2) ≤ os.length := by rw [HO.out]; exact HP.out
    have HLV := Lib.hid (h2.off HGR.out (fun _ => hne))
    by_cases hlt : i < n + 1
    · obtain ⟨ad, rfl, hb3, hcell⟩ := HLV.out.at_ (k := i) (by rw [HVL.out]; exact hlt)
      obtain ⟨y, hy⟩ : ∃ y, vs.getD i 0 = y := ⟨_, rfl⟩
      obtain ⟨u, hu⟩ : ∃ u, os.getD (p + i) 0 = u := ⟨_, rfl⟩
      have hyW : y < W64 := hy ▸ h2.small.getD i
      have huW : u < W64 := hu ▸ HROW.out.small.getD (p + i)
      have hu2 : (us.drop p).getD i 0 = u := by rw [getD_drop, ← getD_of_drop HD.out, hu]
      rw [hy] at hcell
      have hcu := HROW.out.cell (k := p + i) (by omega)
      have hfu := HROW.out.free (p + i)
      rw [hu] at hcu
      have hm1 := mulsub_step (mul_split q0 y) (add_split (mulLo q0 y) c 0)
      have hcW := mulsub_bound hq0W hyW hc hm1
      have hs1 := sub_split huW (addLo_lt (mulLo q0 y) c 0) hb
      have hb1 := subHi_le u (addLo (mulLo q0 y) c 0) b
      have HSET := Lib.hid (HROW.out.set (k := p + i) (x := subLo u (addLo (mulLo q0 y) c 0) b) (by omega) (subLo_lt _ _ _))
      have HGR2 := Lib.hid (grownBy_trans HGR.out (only_set wr ⟨g, p + i, none⟩ (.int .u64 (subLo u (addLo (mulLo q0 y) c 0) b : Nat))))
      have ha1 := add64_run0 (mulLo q0 y) c
      have ha2 := sub64_run u (addLo (mulLo q0 y) c 0) b hb
      have hmul := Lib.hid (bits_mul64 q0 y hq0W hyW)
      have hbc := lt_W64 hcW
      rw [Int.natCast_add] at hbc
      have HS := Lib.hid (show val (((os.set (p + i) (subLo u (addLo (mulLo q0 y) c 0) b)).drop p).take (i + 1)) + q0 * val (vs.take (i + 1)) = val ((us.drop p).take (i + 1)) + W64 ^ (i + 1) * (subHi u (addLo (mulLo q0 y) c 0) b + (mulHi q0 y + addHi (mulLo q0 y) c 0)) by
        have hV := HV.out
        rw [drop_set_add, val_take_set _ _ _ (by rw [List.length_drop]; omega), val_take_step vs, val_take_step (us.drop p), hy, hu2, Nat.pow_succ]
        exact alg_mulsub W64 hV hs1 hm1)
      have HL := Lib.hid (show (os.set (p + i) (subLo u (addLo (mulLo q0 y) c 0) b)).length = us.length by rw [List.length_set, HO.out])
      have HT2 := Lib.hid (show (os.set (p + i) (subLo u (addLo (mulLo q0 y) c 0) b)).take p = us.take p by rw [List.take_set_of_le (by omega), HT.out])
      have HD2 := Lib.hid (show (os.set (p + i) (subLo u (addLo (mulLo q0 y) c 0) b)).drop (p + (i + 1)) = us.drop (p + (i + 1)) by
        rw [List.drop_set_of_lt (by omega), ← Nat.add_assoc]; exact drop_more HD.out 1)
      have HY := Lib.hid hy
      have HU := Lib.hid hu
      have HU2 := Lib.hid hu2
      have hiI : (i : Int) < (n : Int) + 1 := by omega
      have hiI2 : (i : Int) < (la : Int) := by omega
      clear hm1 hs1 hy hu hu2
      go_wp2_with fail
      refine (hmul.out _).mono ?_
      rintro e w1 ⟨rfl, rfl⟩
      go_wp2_with fail
      exact ⟨⟨i + 1, _, _, _, by omega, hb1, hcW, rfl, by simp only [Int.natCast_add], by go_num, HL, HSET, HGR2, HT2, HD2, HS⟩, by simp [intOf]; omega⟩
    · obtain rfl : i = n + 1 := by omega
      obtain ⟨u, hu⟩ : ∃ u, os.getD (p + (n + 1)) 0 = u := ⟨_, rfl⟩
      have huW : u < W64 := hu ▸ HROW.out.small.getD _
      have hu2 : (us.drop p).getD (n + 1) 0 = u := by rw [getD_drop, ← getD_of_drop HD.out, hu]
      have hcu := HROW.out.cell (k := p + (n + 1)) (by omega)
      have hfu := HROW.out.free (p + (n + 1))
      rw [hu] at hcu
      have hs1 := sub_split huW hc hb
      have hb1 := subHi_le u c b
      have HSET := Lib.hid (HROW.out.set (k := p + (n + 1)) (x := subLo u c b) (by omega) (subLo_lt _ _ _))
      have HGR2 := Lib.hid (grownBy_trans HGR.out (only_set wr ⟨g, p + (n + 1), none⟩ (.int .u64 (subLo u c b : Nat))))
      have ha2 := sub64_run u c b hb
      have HS := Lib.hid (show val (((os.set (p + (n + 1)) (subLo u c b)).drop p).take (n + 2)) + q0 * val vs = val ((us.drop p).take (n + 2)) + W64 ^ (n + 2) * subHi u c b by
        have hV := HV.out
        rw [show vs.take (n + 1) = vs from List.take_of_length_le (by rw [HVL.out]; omega)] at hV
        rw [drop_set_add, show n + 2 = (n + 1) + 1 by rfl, val_take_set _ _ _ (by rw [List.length_drop]; omega), val_take_step (us.drop p), hu2, Nat.pow_succ]
        exact alg_sub W64 hV hs1)
      have HL := Lib.hid (show (os.set (p + (n + 1)) (subLo u c b)).length = us.length by rw [List.length_set, HO.out])
      have HT2 := Lib.hid (show (os.set (p + (n + 1)) (subLo u c b)).take p = us.take p by rw [List.take_set_of_le (by omega), HT.out])
      have HD2 := Lib.hid (show (os.set (p + (n + 1)) (subLo u c b)).drop (p + (n + 2)) = us.drop (p + (n + 2)) by
        rw [List.drop_set_of_lt (by omega)]; exact drop_more HD.out 1)
      have HU := Lib.hid (And.intro hu hu2)
      have hiI2 : (n : Int) + 1 < (la : Int) := by omega
      clear hs1 hu hu2
      obtain ⟨b1, hb1e⟩ : ∃ b1, subHi u c b = b1 := ⟨_, rfl⟩
      rw [hb1e] at ha2 hb1 HS
      clear hb1e
      have hcase : b1 = 0 ∨ b1 = 1 := by omega
      rcases hcase with rfl | rfl
      · rw [Int.natCast_zero] at ha2
        go_wp2_with fail
        go_ret
        exact ⟨0, _, rfl, by omega, HSET.out, HL.out, HT2.out, HD2.out, HS.out, HGR2.out⟩
      · rw [Int.natCast_one] at ha2
        go_wp2_with fail
        go_ret
        exact ⟨1, _, rfl, by omega, HSET.out, HL.out, HT2.out, HD2.out, HS.out, HGR2.out⟩
set_option maxHeartbeats 4000000 in
set_option maxRecDepth 100000 in
theorem divide_give (g p la ca c2 n : Nat) (us : List Nat) (A2 : Option Addr) (vs : List Nat) (w : World) (hrow0 : Row w g us) (h2 : Lim w w.heap.size A2 vs) (hne : ∀ ad, A2 = some ad → ad.block ≠ g) (hvl : vs.length = n + 1) (hp : p + (n + 2) ≤ us.length) (hla : n + 2 ≤ la) (hul : us.length ≤ 1099511627776) :
    Calls Tryz.prog 133 #[.slice (some ⟨g, p, none⟩) la ca, .slice A2 (n + 1) c2] w fun e w' => ∃ (v : Value) (c : Nat) (us' : List Nat), e = .returned v ∧ c ≤ 1 ∧ Row w' g us' ∧ us'.length = us.length ∧ us'.take p = us.take p ∧ us'.drop (p + (n + 2)) = us.drop (p + (n + 2)) ∧ val ((us'.drop p).take (n + 2)) + W64 ^ (n + 2) * c = val ((us.drop p).take (n + 2)) + val vs ∧ w.grownBy w' (some g) := by
  have nI : (n : Int) + 2 ≤ (la : Int) := by omega
  have nI2 : (n : Int) ≤ 1099511627776 := by omega
  have HVL := Lib.hid hvl
  have HP := Lib.hid hp
  have HUL := Lib.hid hul
  clear hvl hp hul hla
  go_enter Tryz.func133, Tryz.ntmps133
  go_wp2_with fail
  go_loopw [4, 8] (fun t4 t8 wr => ∃ (i c : Nat) (os : List Nat), i ≤ n + 1 ∧ c ≤ 1 ∧ t4 = .int .u64 (c : Int) ∧ t8 = .int .i64 (i : Int) ∧ Hid (os.length = us.length) ∧ Hid (Row wr g os) ∧ Hid (w.grownBy wr (some g)) ∧ Hid (os.take p = us.take p) ∧ Hid (os.drop (p + i) = us.drop (p + i)) ∧ Hid (val ((os.drop p).take i) + W64 ^ i * c = val ((us.drop p).take i) + val (vs.take i))) (fun _ t8 _ => n + 1 - (intOf t8).toNat)
  case atStart => exact ⟨0, 0, us, by omega, by omega, rfl, rfl, Lib.hid rfl, Lib.hid hrow0, Lib.hid ⟨rfl, rfl, rfl, Nat.le_refl _, fun _ _ _ => rfl⟩, Lib.hid rfl, Lib.hid rfl, Lib.hid (by simp)⟩
  case round =>
    obtain ⟨i, c, os, hi, hc, rfl, rfl, HO, HROW, HGR, HT, HD, HV⟩ := hrel
    have hil : p + (n + 2) ≤ os.length := by rw [HO.out]; exact HP.out
    have HLV := Lib.hid (h2.off HGR.out (fun _ => hne))
    by_cases hlt : i < n + 1
    · obtain ⟨ad, rfl, hb3, hcell⟩ := HLV.out.at_ (k := i) (by rw [HVL.out]; exact hlt)
      obtain ⟨y, hy⟩ : ∃ y, vs.getD i 0 = y := ⟨_, rfl⟩
      obtain ⟨u, hu⟩ : ∃ u, os.getD (p + i) 0 = u := ⟨_, rfl⟩
      have hyW : y < W64 := hy ▸ h2.small.getD i
      have huW : u < W64 := hu ▸ HROW.out.small.getD (p + i)
      have hu2 : (us.drop p).getD i 0 = u := by rw [getD_drop, ← getD_of_drop HD.out, hu]
      rw [hy] at hcell
      have hcu := HROW.out.cell (k := p + i) (by omega)
      have hfu := HROW.out.free (p + i)
      rw [hu] at hcu
      have hs1 := add_split u y c
      have hc1 := addHi_le huW hyW hc
      have HS := Lib.hid (show val (((os.set (p + i) (addLo u y c)).drop p).take (i + 1)) + W64 ^ (i + 1) * addHi u y c = val ((us.drop p).take (i + 1)) + val (vs.take (i + 1)) by
        have hV := HV.out
        rw [drop_set_add, val_take_set _ _ _ (by rw [List.length_drop]; omega), val_take_step vs, val_take_step (us.drop p), hy, hu2, Nat.pow_succ]
        exact alg_add W64 hV hs1)
      have HL := Lib.hid (show (os.set (p + i) (addLo u y c)).length = us.length by rw [List.length_set, HO.out])
      have HT2 := Lib.hid (show (os.set (p + i) (addLo u y c)).take p = us.take p by rw [List.take_set_of_le (by omega), HT.out])
      have HD2 := Lib.hid (show (os.set (p + i) (addLo u y c)).drop (p + (i + 1)) = us.drop (p + (i + 1)) by
        rw [List.drop_set_of_lt (by omega), ← Nat.add_assoc]; exact drop_more HD.out 1)
      have ha := add64_run u y c hc
      have r1 := later_cell hcell
      have r2 := later_cell hcu
      have hiI : (i : Int) < (n : Int) + 1 := by omega
      have hiI2 : (i : Int) < (la : Int) := by omega
      have HU := Lib.hid (And.intro hu hy)
      have HU2 := Lib.hid hu2
      clear hu hy hu2 hs1
      go_wp2_with fail
      have HGN := Lib.hid (fun m => grownBy_trans HGR.out (show wr.grownBy ((wr.drewN m).setCell ⟨g, p + i, none⟩ (.int .u64 (addLo u y c : Nat))) (some g) from grownBy_trans (drew_grown wr m _) (only_set (wr.drewN m) ⟨g, p + i, none⟩ (.int .u64 (addLo u y c : Nat)))))
      have HSN := Lib.hid (fun m => show Row ((wr.drewN m).setCell ⟨g, p + i, none⟩ (.int .u64 (addLo u y c : Nat))) g (os.set (p + i) (addLo u y c)) from (HROW.out.drewN m).set (by omega) (addLo_lt _ _ _))
      go_region_with (fail)
      all_goals
        go_wp2_with fail
        exact ⟨⟨i + 1, _, _, by omega, hc1, rfl, by go_num, HL, Lib.hid (HSN.out _), Lib.hid (HGN.out _), HT2, HD2, HS⟩, by simp [intOf]; omega⟩
    · obtain rfl : i = n + 1 := by omega
      obtain ⟨u, hu⟩ : ∃ u, os.getD (p + (n + 1)) 0 = u := ⟨_, rfl⟩
      have huW : u < W64 := hu ▸ HROW.out.small.getD _
      have hu2 : (us.drop p).getD (n + 1) 0 = u := by rw [getD_drop, ← getD_of_drop HD.out, hu]
      have hcu := HROW.out.cell (k := p + (n + 1)) (by omega)
      have hfu := HROW.out.free (p + (n + 1))
      rw [hu] at hcu
      have hs1 := add_split u 0 c
      have hc1 := addHi_le huW W64_pos hc
      have hwr : IntKind.u64.wrap ((u : Int) + (c : Int)) = ((addLo u 0 c : Nat) : Int) := by
        unfold addLo
        rw [IntKind.wrap_u64, W64_eq]
        omega
      have HSET := Lib.hid (HROW.out.set (k := p + (n + 1)) (x := addLo u 0 c) (by omega) (addLo_lt _ _ _))
      have HGR2 := Lib.hid (grownBy_trans HGR.out (only_set wr ⟨g, p + (n + 1), none⟩ (.int .u64 (addLo u 0 c : Nat))))
      have HS := Lib.hid (show val (((os.set (p + (n + 1)) (addLo u 0 c)).drop p).take (n + 2)) + W64 ^ (n + 2) * addHi u 0 c = val ((us.drop p).take (n + 2)) + val vs by
        have hV := HV.out
        rw [show vs.take (n + 1) = vs from List.take_of_length_le (by rw [HVL.out]; omega)] at hV
        rw [drop_set_add, show n + 2 = (n + 1) + 1 by rfl, val_take_set _ _ _ (by rw [List.length_drop]; omega), val_take_step (us.drop p), hu2, Nat.pow_succ]
        have h4 := alg_add W64 hV hs1
        rwa [Nat.mul_zero, Nat.add_zero] at h4)
      have HL := Lib.hid (show (os.set (p + (n + 1)) (addLo u 0 c)).length = us.length by rw [List.length_set, HO.out])
      have HT2 := Lib.hid (show (os.set (p + (n + 1)) (addLo u 0 c)).take p = us.take p by rw [List.take_set_of_le (by omega), HT.out])
      have HD2 := Lib.hid (show (os.set (p + (n + 1)) (addLo u 0 c)).drop (p + (n + 2)) = us.drop (p + (n + 2)) by
        rw [List.drop_set_of_lt (by omega)]; exact drop_more HD.out 1)
      have HU := Lib.hid (And.intro hu hu2)
      have hiI2 : (n : Int) + 1 < (la : Int) := by omega
      clear hs1 hu hu2
      go_wp2_with fail
      go_end0
      exact ⟨_, addHi u 0 c, _, rfl, hc1, HSET.out, HL.out, HT2.out, HD2.out, HS.out, HGR2.out⟩
end Go.Proofs.YtonbhpadoplpkaaGreat
/- The package divide: trim, short, shifted, made. -/
namespace Go.Proofs.YtonbhpadoplpkaaGreat
open Go.RowKit Go.Deep
set_option maxHeartbeats 400000 in
theorem divide_trim (A : Option Addr) (c : Nat) (xs : List Nat) (w : World) {B : Nat} (h : Lim w B A xs) (hc : xs.length ≤ c) (_hl : xs.length ≤ 35184372088832) :
    Calls Tryz.prog 91 #[.slice A xs.length c] w fun e w' => e = .returned (.slice A (limbs (val xs)).length (limbs (val xs)).length) ∧ w = w' := by
  rw [← trimL_eq h.small]
  have hcI : (xs.length : Int) ≤ (c : Int) := by omega
  go_enter Tryz.func91, Tryz.ntmps91
  go_wp2
  go_loop [3] (fun v => ∃ n : Nat, n ≤ xs.length ∧ v = .int .i64 (n : Int) ∧ trimL (xs.take n) = trimL xs) (fun v => (intOf v).toNat)
  case atStart => exact ⟨xs.length, Nat.le_refl _, rfl, by simp⟩
  case round =>
    obtain ⟨n, hn, rfl, ht⟩ := hrel
    have HT := Lib.hid ht
    clear ht
    rcases n with _ | n
    · go_wp2
      go_ret
      exact ⟨by rw [← HT.out]; rfl, rfl⟩
    · obtain ⟨ad, rfl, hb, hcell⟩ := h.at_ (k := n) (by omega)
      generalize hx : xs.getD n 0 = x at *
      have HX := Lib.hid hx
      clear hx
      have hn1 : (n : Int) + 1 ≤ (xs.length : Int) := by omega
      go_wp2
      · have hx : ((x : Int) == 0) = true := by assumption
        simp only [beq_iff_eq] at hx
        refine ⟨⟨n, by omega, by go_num, ?_⟩, by simp [intOf]⟩
        rw [← HT.out, trimL_zero xs n (by omega) (by have := HX.out; omega)]
      · have hx : ((x : Int) == 0) = false := by assumption
        simp only [beq_eq_false_iff_ne] at hx
        go_ret
        have e : (trimL xs).length = n + 1 := by
          rw [← HT.out, trimL_pos xs n (by omega) (by have := HX.out; omega), List.length_take]; omega
        exact ⟨by rw [e]; rfl, rfl⟩
/-- The block of a slice. -/
def blockOf : Value → Option Nat
  | .slice (some a) _ _ => some a.block
  | .agg #[_, .slice (some a) _ _] => some a.block
  | _ => none
/-- Two values lie in two blocks. -/
def Sep (u v : Value) : Prop := ∀ a b, blockOf u = some a → blockOf v = some b → a ≠ b
theorem Sep.nil (v : Value) : Sep (.slice none 0 0) v := fun a b h _ => by cases h
theorem Sep.of_lt {A B : Addr} {l c m d : Nat} (h : A.block < B.block) : Sep (.slice (some A) l c) (.slice (some B) m d) := fun a b h1 h2 => by
  injection h1 with h1
  injection h2 with h2
  omega
theorem Sep.sub {u v u' v' : Value} (h : Sep u v) (hu : ∀ b, blockOf u' = some b → blockOf u = some b) (hv : ∀ b, blockOf v' = some b → blockOf v = some b) : Sep u' v' := fun a b h1 h2 => h a b (hu a h1) (hv b h2)
/-- A slice of limbs, not trimmed, in memory since base: this is its number. -/
def Part (w : World) (base : Nat) (v : Value) (n : Nat) : Prop := ∃ A c xs, v = .slice A xs.length c ∧ xs.length ≤ c ∧ xs.length ≤ 1099511627776 ∧ Lim w w.heap.size A xs ∧ Fresh w base A c ∧ val xs = n
theorem Part.below {w w' : World} {base : Nat} {v : Value} {n : Nat} (h : Part w base v n) (hb : Below w.heap.size w w') : Part w' base v n := by
  obtain ⟨A, c, xs, h1, h2, h3, h4, h5, h6⟩ := h
  exact ⟨A, c, xs, h1, h2, h3, (h4.below hb).more hb.size, h5.below hb, h6⟩
theorem Part.stay {w w' : World} {base : Nat} {v : Value} {n : Nat} (h : Part w base v n) (hb : Below w.heap.size w w') : Part w' base v n := h.below hb
theorem Part.row {w : World} {base g : Nat} {xs : List Nat} (h : Row w g xs) (hf : Fresh w base (some ⟨g, 0, none⟩) xs.length) (hl : xs.length ≤ 1099511627776) : Part w base (.slice (some ⟨g, 0, none⟩) xs.length xs.length) (val xs) :=
  ⟨_, _, xs, rfl, Nat.le_refl _, hl, h.lim h.lt, hf, rfl⟩
theorem Part.one (W : World) (r : Nat) (hr : r < W64) : Part (W.alloc (.cells #[.int .u64 (r : Int)] 85)) W.heap.size (.slice (some ⟨W.heap.size, 0, none⟩) 1 1) r := by
  have ho : Own (W.alloc (.cells #[.int .u64 (r : Int)] 85)) W.heap.size (.slice (some ⟨W.heap.size, 0, none⟩) 1 1) [r] :=
    ⟨Small.one hr, rfl, .inr ⟨W.heap.size, 1, _, rfl, Nat.le_refl _, heap_alloc_new W _, Nat.le_refl _, by simp only [maxLen]; omega, rfl, rfl⟩⟩
  obtain ⟨A, c, e, hc, hlim, _⟩ := ho.form
  injection e with e1 e2 e3
  subst e1
  exact ⟨_, 1, [r], rfl, by simp, by simp, hlim, .inr ⟨_, _, rfl, Nat.le_refl _, heap_alloc_new W _, by simp⟩, by simp [val]⟩
theorem Part.since {w : World} {base base' : Nat} {v : Value} {n : Nat} (h : Part w base v n) (hb : base' ≤ base) : Part w base' v n := by
  obtain ⟨A, c, xs, h1, h2, h3, h4, h5, h6⟩ := h
  exact ⟨A, c, xs, h1, h2, h3, h4, h5.since hb, h6⟩
theorem Part.nil (w : World) (base : Nat) : Part w base (.slice none 0 0) 0 := ⟨none, 0, [], rfl, by simp, by simp, Lim.nil _ _ _, .inl ⟨rfl, rfl⟩, rfl⟩
set_option maxHeartbeats 800000 in
set_option maxRecDepth 100000 in
theorem divide_short (A1 : Option Addr) (c1 : Nat) (xs : List Nat) (d : Nat) (w : World) {B : Nat} (hB : B ≤ w.heap.size) (h1 : Lim w B A1 xs) (hl : xs.length ≤ 1099511627776) (hd : d < W64) (hd0 : 0 < d) :
    Calls Tryz.prog 88 #[.slice A1 xs.length c1, .int .u64 (d : Int)] w fun e w' => ∃ u v, e = .returned (.tuple #[u, v]) ∧ Part w' w.heap.size u (val xs / d) ∧ Part w' w.heap.size v (val xs % d) ∧ Sep u v ∧ Below w.heap.size w w' := by
  have hmk := make_limbs xs.length (by omega)
  go_enter Tryz.func88, Tryz.ntmps88
  go_wp2_with fail
  go_loopw [7, 8] (fun t7 t8 wr => ∃ (k r : Nat) (os : List Nat), k ≤ xs.length ∧ r < d ∧ os.length = xs.length ∧ t7 = .int .u64 (r : Int) ∧ t8 = .int .i64 ((k : Int) - 1) ∧ Row wr w.heap.size os ∧ Fresh wr w.heap.size (some ⟨w.heap.size, 0, none⟩) xs.length ∧ Below w.heap.size w wr ∧ val (xs.drop k) = d * val (os.drop k) + r) (fun _ t8 _ => (intOf t8 + 1).toNat)
  case atStart =>
    exact ⟨xs.length, 0, List.replicate xs.length 0, by omega, hd0, by simp, rfl, rfl, Row.made _ _, Fresh.made _ _, (Below.refl _ _).alloc (Nat.le_refl _) _, by simp⟩
  case round =>
    obtain ⟨k, r, os, hk, hr, ho, rfl, rfl, hrow, hfr, hbel, hval⟩ := hrel
    have HV := Lib.hid hval
    have HO := Lib.hid ho
    clear hval ho
    rcases k with _ | k
    · have hq : val os = val xs / d ∧ r = val xs % d := by
        have h := HV.out
        rw [List.drop_zero, List.drop_zero] at h
        rw [h, Nat.mul_add_div hd0, Nat.mul_add_mod, Nat.div_eq_of_lt hr, Nat.mod_eq_of_lt hr]
        exact ⟨rfl, rfl⟩
      have HQ := Lib.hid hq
      clear hq
      go_wp2_with fail
      go_ret2
      have hr2 : r < W64 := by omega
      have hb1 : Below wr.heap.size wr (wr.alloc (.cells #[.int .u64 (r : Int)] 85)) := (Below.refl _ _).alloc (Nat.le_refl _) _
      refine ⟨_, _, rfl, ?_, ?_, Sep.of_lt hrow.lt, hbel.trans (hb1.mono hbel.size)⟩
      · have h := (Part.row hrow (by rw [HO.out]; exact hfr) (by rw [HO.out]; omega)).below hb1
        rw [HO.out, HQ.out.1] at h
        exact h
      · rw [← HQ.out.2]
        exact (Part.one wr r hr2).since hbel.size
    · obtain ⟨ad, rfl, hb, hcell⟩ := (h1.below (hbel.mono hB)).at_ (k := k) (by omega)
      obtain ⟨x, hx⟩ : ∃ x, xs.getD k 0 = x := ⟨_, rfl⟩
      have hxs : x < W64 := hx ▸ h1.small.getD k
      rw [hx] at hcell
      have hdl := digit_lt hr hxs
      have hml : (r * W64 + x) % d < d := Nat.mod_lt _ hd0
      have h2 := Nat.div_add_mod (r * W64 + x) d
      have hdiv := bits_div64 r x d hxs hd hr
      generalize (r * W64 + x) / d = q at *
      generalize (r * W64 + x) % d = t at *
      have hstep : val (xs.drop k) = d * val ((os.set k q).drop k) + t := by
        have hV := HV.out
        rw [val_drop_step xs k (by omega), hx, hV, val_drop_set os k _ (by rw [HO.out]; omega)]
        generalize val (os.drop (k + 1)) = v at *
        grind
      have HS := Lib.hid hstep
      have HL := Lib.hid (show (os.set k q).length = xs.length by rw [List.length_set, HO.out])
      have hcg := hrow.cell (k := k) (by rw [HO.out]; omega)
      have hfg := hrow.free k
      have HK := Lib.hid (show k < os.length by rw [HO.out]; omega)
      have HDIV := Lib.hid hdiv
      have e1 : ((k + 1 : Nat) : Int) - 1 = (k : Int) := by omega
      rw [e1]
      clear e1 hstep hx h2 hdiv
      go_wp2_with fail
      refine (HDIV.out _).mono ?_
      rintro e w1 ⟨rfl, n, rfl⟩
      go_wp2_with fail
      exact ⟨⟨k, _, _, by omega, hml, HL.out, rfl, rfl, (hrow.drewN n).set HK.out hdl, (hfr.below (below_drewN (Below.refl _ _) n)).set _ _ _, (below_drewN hbel n).setCell (p := ⟨w.heap.size, k, none⟩) (Nat.le_refl _) _, HS.out⟩, by simp [intOf]⟩
theorem shift_state {W T P d t x low a b : Nat} (h : d + W * t = x * T + low) (hV : a + P * low = b * T) : a + P * d + P * W * t = (b + P * x) * T := by
  have h2 : P * (d + W * t) = P * (x * T + low) := by rw [h]
  grind
theorem val_take_two (os : List Nat) (i d t : Nat) (h : i + 1 < os.length) : val (((os.set i d).set (i + 1) t).take (i + 1 + 1)) = val (os.take i) + W64 ^ i * d + W64 ^ i * W64 * t := by
  rw [val_take_set _ _ _ (by rw [List.length_set]; omega), val_take_set _ _ _ (by omega), Nat.pow_succ]
set_option maxHeartbeats 1600000 in
set_option maxRecDepth 100000 in
theorem divide_shifted (A1 : Option Addr) (c1 : Nat) (xs : List Nat) (s : Nat) (w : World) {B : Nat} (hB : B ≤ w.heap.size) (h1 : Lim w B A1 xs) (hl : xs.length ≤ 1099511627776) (hs : s < 64) :
    Calls Tryz.prog 130 #[.slice A1 xs.length c1, .int .i64 (s : Int)] w fun e w' => ∃ g os, e = .returned (.slice (some ⟨g, 0, none⟩) (xs.length + 1) (xs.length + 1)) ∧ (w.heap.size ≤ g ∧ g < w'.heap.size) ∧ os.length = xs.length + 1 ∧ Row w' g os ∧ Fresh w' w.heap.size (some ⟨g, 0, none⟩) (xs.length + 1) ∧ val os = val xs * 2 ^ s ∧ Below w.heap.size w w' := by
  have hmk := make_limbs (xs.length + 1) (by omega)
  rw [Int.natCast_add, Int.natCast_one] at hmk
  have hsI : (s : Int) < 64 := by omega
  have hsJ : (63 : Int) - (s : Int) = ((63 - s : Nat) : Int) := by omega
  have hlI : (xs.length : Int) ≤ 1099511627776 := by omega
  have HL := Lib.hid hl
  have HS0 := Lib.hid hs
  clear hl
  go_enter Tryz.func130, Tryz.ntmps130
  go_wp2_with fail
  go_loopw [14] (fun t14 wr => ∃ (i : Nat) (os : List Nat), i ≤ xs.length ∧ t14 = .int .i64 (i : Int) ∧ Hid (os.length = xs.length + 1) ∧ Hid (Row wr w.heap.size os) ∧ Hid (Fresh wr w.heap.size (some ⟨w.heap.size, 0, none⟩) (xs.length + 1)) ∧ Hid (Below w.heap.size w wr) ∧ Hid (os.getD i 0 < 2 ^ s) ∧ Hid (val (os.take (i + 1)) = val (xs.take i) * 2 ^ s)) (fun t14 _ => xs.length - (intOf t14).toNat)
  case atStart =>
    exact ⟨0, List.replicate (xs.length + 1) 0, by omega, rfl, Lib.hid (by simp), Lib.hid (Row.made _ _), Lib.hid (Fresh.made _ _), Lib.hid ((Below.refl _ _).alloc (Nat.le_refl _) _), Lib.hid (by have := Nat.pow_pos (n := s) (show 0 < 2 by omega); simpa using this), Lib.hid (by rw [List.take_zero, val_nil, Nat.zero_mul]; simp [val])⟩
  case round =>
    obtain ⟨i, os, hi, rfl, HO, HROW, HF, HB, HLOW, HV⟩ := hrel
    by_cases hlt : i < xs.length
    · obtain ⟨ad, rfl, hb, hcell⟩ := (h1.below (HB.out.mono hB)).at_ (k := i) hlt
      obtain ⟨x, hx⟩ : ∃ x, xs.getD i 0 = x := ⟨_, rfl⟩
      have hxs : x < W64 := hx ▸ h1.small.getD i
      rw [hx] at hcell
      obtain ⟨low, hlow⟩ : ∃ l, os.getD i 0 = l := ⟨_, rfl⟩
      have hlw := HLOW.out
      rw [hlow] at hlw
      have hpow : 2 ^ s ≤ W64 := by rw [W64_two]; exact Nat.pow_le_pow_right (by omega) (by omega)
      obtain ⟨hd1, hd2, hd3, hd4⟩ := shl_step hxs hs hlw
      have e1 : bits .or .u64 (low : Int) (IntKind.u64.wrap ((x : Int) * 2 ^ s)) = ((x * 2 ^ s % W64 + low : Nat) : Int) := by
        have e : (x : Int) * 2 ^ s = ((x * 2 ^ s : Nat) : Int) := by simp
        rw [e, wrap_u64_nat, u64_or_nat _ _ (by rw [← W64_eq]; omega) (by rw [← W64_eq]; exact Nat.mod_lt _ W64_pos), Nat.or_comm, hd4]
      have e2 : (x : Int) / 2 / 2 ^ (63 - s) = ((x / 2 ^ (64 - s) : Nat) : Int) := by
        rw [show 64 - s = 63 - s + 1 by omega, Nat.pow_succ, Nat.mul_comm, ← Nat.div_div_eq_div_mul]; simp
      have hcl := HROW.out.cell (k := i) (by rw [HO.out]; omega)
      have hfl := HROW.out.free i
      have hfl2 := HROW.out.free (i + 1)
      rw [hlow] at hcl
      have HST := Lib.hid (shift_state (P := W64 ^ i) (b := val (xs.take i)) (a := val (os.take i)) hd3 (by
        have h := HV.out
        rw [val_take_step os, hlow] at h
        exact h))
      have HD := Lib.hid (And.intro hd1 hd2)
      have HX := Lib.hid (And.intro hx hlow)
      obtain ⟨d, hd⟩ : ∃ d, x * 2 ^ s % W64 + low = d := ⟨_, rfl⟩
      obtain ⟨t, ht⟩ : ∃ t, x / 2 ^ (64 - s) = t := ⟨_, rfl⟩
      rw [hd] at e1 HST HD
      rw [ht] at e2 HST HD
      have hiI : (i : Int) < (xs.length : Int) := by omega
      have r1 := later_cell hcl
      clear hd1 hd2 hd3 hd4 hx hlow hlw hpow hd ht hlt hi
      go_upto_region 5 with (fail)
      go_region_with (fail)
      obtain ⟨W5, hW5⟩ : ∃ W, (wr.setCell ⟨w.heap.size, i, none⟩ (.int .u64 (d : Int))).drew = W := ⟨_, rfl⟩
      have HROW5 := Lib.hid (show Row W5 w.heap.size (os.set i d) by rw [← hW5]; exact ((HROW.out.set (by rw [HO.out]; omega) HD.out.1).drewN 1))
      have HF5 := Lib.hid (show Fresh W5 w.heap.size (some ⟨w.heap.size, 0, none⟩) (xs.length + 1) by rw [← hW5]; exact (HF.out.set w.heap.size i (.int .u64 (d : Int))).below (below_drewN (Below.refl _ _) 1))
      have HB5 := Lib.hid (show Below w.heap.size w W5 by rw [← hW5]; exact below_drewN (HB.out.setCell (p := ⟨w.heap.size, i, none⟩) (Nat.le_refl _) _) 1)
      rw [hW5]
      clear hW5 r1 hfl hfl2 hcl hcell
      have hf2 := HROW5.out.free (i + 1)
      have HTW := Lib.hid (show t < W64 from Nat.lt_of_lt_of_le HD.out.2 (by rw [W64_two]; exact Nat.pow_le_pow_right (by omega) (by have := HS0.out; omega)))
      have hc2 := HROW5.out.cell (k := i + 1) (by rw [List.length_set, HO.out]; omega)
      have HROW6 := Lib.hid (HROW5.out.set (k := i + 1) (x := t) (by rw [List.length_set, HO.out]; omega) HTW.out)
      have HF6 := Lib.hid (HF5.out.set w.heap.size (i + 1) (.int .u64 (t : Int)))
      have HB6 := Lib.hid (HB5.out.setCell (p := ⟨w.heap.size, i + 1, none⟩) (Nat.le_refl _) (.int .u64 (t : Int)))
      have HL6 := Lib.hid (show ((os.set i d).set (i + 1) t).length = xs.length + 1 by rw [List.length_set, List.length_set, HO.out])
      go_wp2_with fail
      refine ⟨⟨i + 1, _, by omega, by go_num, HL6, HROW6, HF6, HB6, Lib.hid ?_, Lib.hid ?_⟩, by simp [intOf]; omega⟩
      · rw [List.getD_eq_getElem?_getD, List.getElem?_set_self (by rw [List.length_set, HO.out]; omega)]; exact HD.out.2
      · rw [val_take_two _ _ _ _ (by rw [HO.out]; omega), val_take_step xs, HX.out.1]
        exact HST.out
    · obtain rfl : i = xs.length := by omega
      have HFIN := Lib.hid (show val os = val xs * 2 ^ s by
        have h := HV.out
        rwa [List.take_of_length_le (by rw [HO.out]; omega), List.take_of_length_le (Nat.le_refl _)] at h)
      go_wp2_with fail
      go_ret
      exact ⟨w.heap.size, os, rfl, ⟨Nat.le_refl _, HROW.out.lt⟩, HO.out, HROW.out, HF.out, HFIN.out, HB.out⟩
theorem part_raw {neg : Bool} {n : Nat} (h : n ≠ 0) : rawOf (signed neg n) = (neg, limbs n) := by
  unfold rawOf
  rw [signed_natAbs]
  cases neg <;> simp [signed] <;> omega
theorem part_zero (neg : Bool) : rawOf (signed neg 0) = (false, []) := by
  unfold rawOf
  rw [signed_natAbs, limbs_zero]
  cases neg <;> simp [signed]
set_option maxRecDepth 100000 in
theorem divide_made (neg : Bool) (v : Value) (n base : Nat) (w : World) (h : Part w base v n) :
    Calls Tryz.prog 51 #[.bool neg, v] w fun e w' => ∃ u, e = .returned u ∧ RawAt w' base u (rawOf (signed neg n)) ∧ (∀ b, blockOf u = some b → blockOf v = some b) ∧ Below w.heap.size w w' := by
  obtain ⟨A, c, xs, rfl, hc, hl, hlim, hf, hv⟩ := h
  have HV := Lib.hid hv
  have HL := Lib.hid hl
  have HLIM := Lib.hid hlim
  have HF := Lib.hid hf
  have HC := Lib.hid hc
  clear hv hl hlim hf hc
  go_enter Tryz.func51, Tryz.ntmps51
  go_wp2_with fail
  obtain ⟨W0, g, hW, hg, bx, hbw, -⟩ := box_new w (.bool false) (.slice none 0 0)
  have hb0 : Below w.heap.size w W0 := by rw [hg]; exact hbw
  have HB0 := Lib.hid hb0
  have HL0 := Lib.hid ((HLIM.out.below hb0).more hb0.size)
  have HF0 := Lib.hid (HF.out.below hb0)
  rw [hW, hg]
  have HG := Lib.hid (show w.heap.size ≤ g by omega)
  clear hW hg hbw hb0
  refine (divide_trim _ _ _ _ HL0.out HC.out (by have := HL.out; omega)).mono ?_
  rintro e w1 ⟨rfl, rfl⟩
  have hlc := lc_val HLIM.out.small
  have ht := HL0.out.trim
  rw [HV.out] at ht hlc ⊢
  obtain ⟨m, hm⟩ : ∃ m, (limbs n).length = m := ⟨_, rfl⟩
  have HM := Lib.hid hm
  rw [hm]
  have hmc : m ≤ c := by have := HC.out; have h2 : (limbs n).length ≤ xs.length := hlc; omega
  have HT := Lib.hid ht
  have HMC := Lib.hid hmc
  have a0 := bx.cell0
  have a1 := bx.cell1
  have fr := bx.free
  clear ht hlc hm hmc
  by_cases h0 : n = 0
  · obtain rfl : m = 0 := by rw [← HM.out, h0, limbs_zero]; rfl
    go_wp2_with fail
    refine bodyPost_ret (results_cell_row rfl _ _ g 24 #[.bool false, (.slice none 0 0)] (0, 0) _ (by rfl) bx.store Tryz.underlying24 rfl (by kernel_rfl)) rfl ?_
    subst h0
    rw [part_zero]
    exact ⟨_, rfl, RawAt.zero _ _, (fun b h => by cases h), store2_below HB0.out HG.out⟩
  · have h1 : ((m : Int) == 0) = false := by
      rw [beq_eq_false_iff_ne]
      intro h
      have h2 : (limbs n).length = 0 := by rw [HM.out]; omega
      exact h0 (limbs_eq_nil.1 (List.eq_nil_of_length_eq_zero h2))
    have HN := Lib.hid h0
    clear h0
    go_wp2_with fail
    refine bodyPost_ret (results_cell_row rfl _ _ g 24 #[.bool neg, (.slice A m m)] (0, 0) _ (by rfl) bx.store Tryz.underlying24 rfl (by kernel_rfl)) rfl ?_
    rw [part_raw HN.out]
    have hraw : RawAt W0 base (.agg #[.bool neg, .slice A m m]) (neg, limbs n) := ⟨A, m, m, rfl, HM.out.symm, Nat.le_refl _, HT.out, HF0.out.cut HMC.out⟩
    exact ⟨_, rfl, hraw.store2 bx.nums _ _, (fun b h => by cases A <;> exact h), store2_below HB0.out HG.out⟩
end Go.Proofs.YtonbhpadoplpkaaGreat
/- Long division, plain: the loop that gives back. -/
namespace Go.Proofs.YtonbhpadoplpkaaGreat
theorem top_zero {win : List Nat} {n : Nat} (hl : win.length = n + 1) (h : val win < W64 ^ n) : win.getD n 0 = 0 := by
  have h1 := val_split win n (by omega)
  have h2 := val_drop_step win n (by omega)
  rw [List.drop_of_length_le (i := n + 1) (by omega), val_nil, Nat.mul_zero, Nat.add_zero] at h2
  rw [h2] at h1
  rcases Nat.eq_zero_or_pos (win.getD n 0) with h0 | h0
  · exact h0
  · have := Nat.mul_le_mul_left (W64 ^ n) (show 1 ≤ win.getD n 0 from h0)
    omega
theorem top_pos {win : List Nat} {n : Nat} (hs : Small win) (hl : win.length = n + 1) (h : W64 ^ n ≤ val win) : win.getD n 0 ≠ 0 := by
  intro h0
  have h1 := val_split win n (by omega)
  have h2 := val_drop_step win n (by omega)
  rw [List.drop_of_length_le (i := n + 1) (by omega), val_nil, Nat.mul_zero, Nat.add_zero, h0] at h2
  rw [h2, Nat.mul_zero, Nat.add_zero] at h1
  have h3 := val_lt (hs.take n)
  rw [List.length_take, Nat.min_eq_left (by omega)] at h3
  omega
theorem getD_win (os : List Nat) (p n k : Nat) (h : k < n) : ((os.drop p).take n).getD k 0 = os.getD (p + k) 0 := by
  simp only [List.getD_eq_getElem?_getD, List.getElem?_take, if_pos h, List.getElem?_drop]
theorem win_lt {os : List Nat} (hs : Small os) {p n : Nat} (hp : p + n ≤ os.length) : val ((os.drop p).take n) < W64 ^ n := by
  have h := val_lt ((hs.drop p).take n)
  rwa [List.length_take, List.length_drop, Nat.min_eq_left (by omega)] at h
/-- The loop that gives the divisor back, while the window is below 0. -/
structure Giving (us os : List Nat) (p n V q : Nat) : Prop where
  len : os.length = us.length
  tk : os.take p = us.take p
  dr : os.drop (p + (n + 3)) = us.drop (p + (n + 3))
  sum : val ((os.drop p).take (n + 3)) + q * V = val ((us.drop p).take (n + 3)) + W64 ^ (n + 3)
  close : q * V < val ((us.drop p).take (n + 3)) + W64 ^ (n + 2)
theorem Giving.pos {us os : List Nat} {p n V q : Nat} (h : Giving us os p n V q) (hs : Small os) (hp : p + (n + 3) ≤ us.length) : 1 ≤ q := by
  have h1 := win_lt hs (p := p) (n := n + 3) (by rw [h.len]; exact hp)
  have h2 := h.sum
  rcases Nat.eq_zero_or_pos q with h0 | h0
  · rw [h0, Nat.zero_mul] at h2; omega
  · exact h0
/-- What is told when the window is right. -/
structure Given (us os : List Nat) (p n V q : Nat) : Prop where
  len : os.length = us.length
  tk : os.take p = us.take p
  dr : os.drop (p + (n + 3)) = us.drop (p + (n + 3))
  rest : val ((os.drop p).take (n + 3)) = val ((us.drop p).take (n + 3)) % V
  quo : q = val ((us.drop p).take (n + 3)) / V
theorem div_of_sum {a q V m : Nat} (h : a + q * V = m) (ha : a < V) : a = m % V ∧ q = m / V := by
  subst h
  constructor
  · rw [Nat.add_mul_mod_self_right, Nat.mod_eq_of_lt ha]
  · rw [Nat.add_mul_div_right _ _ (by omega), Nat.div_eq_of_lt ha, Nat.zero_add]
theorem Giving.step {us os os' : List Nat} {p n V q c : Nat} (h : Giving us os p n V q) (hs : Small os) (hs' : Small os') (hp : p + (n + 3) ≤ us.length) (hVl : V < W64 ^ (n + 2))
    (hlen : os'.length = os.length) (htk : os'.take p = os.take p) (hdr : os'.drop (p + (n + 3)) = os.drop (p + (n + 3)))
    (hv : val ((os'.drop p).take (n + 3)) + W64 ^ (n + 3) * c = val ((os.drop p).take (n + 3)) + V) (hc : c ≤ 1) :
    (os'.getD (p + (n + 2)) 0 ≠ 0 ∧ Giving us os' p n V (q - 1)) ∨ (os'.getD (p + (n + 2)) 0 = 0 ∧ Given us os' p n V (q - 1)) := by
  have hq := h.pos hs hp
  have h1 := win_lt hs (p := p) (n := n + 3) (by rw [h.len]; exact hp)
  have hl' : os'.length = us.length := hlen.trans h.len
  have hwl : ((os'.drop p).take (n + 3)).length = n + 2 + 1 := by rw [List.length_take, List.length_drop]; omega
  have hg := getD_win os' p (n + 3) (n + 2) (by omega)
  have hsw : Small ((os'.drop p).take (n + 3)) := (hs'.drop p).take (n + 3)
  have hsum := h.sum
  have hcl := h.close
  have hW3 : 2 * W64 ^ (n + 2) ≤ W64 ^ (n + 3) := by
    rw [Nat.pow_succ W64 (n + 2), Nat.mul_comm 2]
    exact Nat.mul_le_mul_left _ (by rw [W64_eq]; omega)
  obtain ⟨r, rfl⟩ : ∃ r, q = r + 1 := ⟨q - 1, by omega⟩
  rw [Nat.add_sub_cancel]
  rw [Nat.add_mul, Nat.one_mul] at hsum hcl
  have hc2 : c = 0 ∨ c = 1 := by omega
  rcases hc2 with rfl | rfl
  · rw [Nat.mul_zero, Nat.add_zero] at hv
    refine .inl ⟨?_, ⟨hl', htk.trans h.tk, hdr.trans h.dr, by omega, by omega⟩⟩
    rw [← hg]
    exact top_pos hsw hwl (by omega)
  · rw [Nat.mul_one] at hv
    have h5 := div_of_sum (a := val ((os'.drop p).take (n + 3))) (q := r) (V := V) (m := val ((us.drop p).take (n + 3))) (by omega) (by omega)
    refine .inr ⟨?_, ⟨hl', htk.trans h.tk, hdr.trans h.dr, h5.1, h5.2⟩⟩
    rw [← hg]
    exact top_zero hwl (by omega)
/-- What was taken away at first. -/
theorem taken {us os : List Nat} {p n V q b : Nat} (hlen : os.length = us.length) (htk : os.take p = us.take p) (hdr : os.drop (p + (n + 3)) = us.drop (p + (n + 3)))
    (hv : val ((os.drop p).take (n + 3)) + q * V = val ((us.drop p).take (n + 3)) + W64 ^ (n + 3) * b) (hb : b ≤ 1) (hQ : val ((us.drop p).take (n + 3)) / V ≤ q) (hcl : q * V < val ((us.drop p).take (n + 3)) + W64 ^ (n + 2)) (hV : 0 < V) :
    (b = 0 ∧ Given us os p n V q) ∨ (b = 1 ∧ Giving us os p n V q) := by
  have hb2 : b = 0 ∨ b = 1 := by omega
  rcases hb2 with rfl | rfl
  · rw [Nat.mul_zero, Nat.add_zero] at hv
    have h1 := Nat.lt_div_mul_add (a := val ((us.drop p).take (n + 3))) hV
    have h2 := Nat.mul_le_mul_right V hQ
    have h5 := div_of_sum (a := val ((os.drop p).take (n + 3))) (q := q) (V := V) (m := val ((us.drop p).take (n + 3))) (by omega) (by omega)
    exact .inl ⟨rfl, ⟨hlen, htk, hdr, h5.1, h5.2⟩⟩
  · rw [Nat.mul_one] at hv
    exact .inr ⟨rfl, ⟨hlen, htk, hdr, hv, hcl⟩⟩
theorem long_start {xs ys : List Nat} (hx : Small xs) (hy : Small ys) {lb D : Nat} (hyl : ys.length = lb + 2) (hxl : xs.length = D + (lb + 2)) (ht : ys.getD (lb + 1) 0 ≠ 0) :
    64 - bitLen (ys.getD (lb + 1) 0) < 64 ∧ val ys * 2 ^ (64 - bitLen (ys.getD (lb + 1) 0)) < W64 ^ (lb + 2) ∧ W64 ^ (lb + 1) ≤ val ys * 2 ^ (64 - bitLen (ys.getD (lb + 1) 0)) ∧ 0 < val ys ∧
    val xs * 2 ^ (64 - bitLen (ys.getD (lb + 1) 0)) < W64 ^ (D + 1) * (val ys * 2 ^ (64 - bitLen (ys.getD (lb + 1) 0))) := by
  have hn : Norm ys := .inr (by rw [hyl]; exact ht)
  have he := eq_limbs hy hn
  have hlc : lc (val ys) = lb + 2 := by unfold lc; rw [← he]; exact hyl
  have hge : W64 ^ (lb + 1) ≤ val ys := by
    rcases Nat.lt_or_ge (val ys) (W64 ^ (lb + 1)) with h | h
    · have := lc_le.2 h; omega
    · exact h
  have hpos : 0 < val ys := Nat.lt_of_lt_of_le (Nat.pow_pos W64_pos) hge
  obtain ⟨s, t, h1, h2, h3, h4, h5, _, _⟩ := moved_lc (m := val ys) (n := val ys) (by omega) (Nat.le_refl _)
  rw [hlc, ← he] at h1
  have h1' : ys.getD (lb + 1) 0 = t := h1
  rw [h1', h3]
  rw [hlc] at h5
  have hp : 1 ≤ 2 ^ s := Nat.pow_pos (by omega)
  refine ⟨by omega, lc_le.1 (by omega), Nat.le_trans hge (Nat.le_mul_of_pos_right _ hp), hpos, ?_⟩
  rw [← Nat.mul_assoc]
  refine Nat.mul_lt_mul_of_pos_right ?_ hp
  have h6 := val_lt hx
  rw [hxl, show D + (lb + 2) = (D + 1) + (lb + 1) by omega, Nat.pow_add] at h6
  exact Nat.lt_of_lt_of_le h6 (Nat.mul_le_mul_left _ hge)
end Go.Proofs.YtonbhpadoplpkaaGreat
