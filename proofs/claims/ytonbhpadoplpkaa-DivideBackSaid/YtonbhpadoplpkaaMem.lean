/- Words for memory: limbs that are read, rows that the call fills, whole numbers behind pointers. -/
import Derived.Test.YtonbhpadoplpkaaProg
import Derived.Test.YtonbhpadoplpkaaNum
import Derived.WalkKit
import Derived.Laws.OwnMore
import Derived.Deep.Draws
import Derived.Deep.OwnRows
import Derived.Deep.LoopGhost
import Derived.Deep.QuietTactic
import Derived.BigQuiet
import Derived.Lib.Hide
import Derived.Maps.AppendAt
import Derived.Laws.Rows
import Derived.OneCell
import Derived.Shelf.Spec.BitsCarry
namespace Go.Proofs.Ytonbhpadoplpkaa
open Go.RowKit Go.Deep

theorem block_of_add (a : Addr) (n : Nat) : (a.add n).block = a.block := by unfold Addr.add; split <;> rfl
theorem add_of_add (a : Addr) (i j : Nat) : (a.add i).add j = a.add (i + j) := by
  unfold Addr.add
  by_cases hi : i = 0 <;> by_cases hj : j = 0 <;> simp [hi, hj, Nat.add_assoc]
theorem add_succ (a : Addr) (j : Nat) : a.add (j + 1) = ⟨a.block, a.off + (j + 1), none⟩ := by unfold Addr.add; rw [if_neg (by omega)]
theorem add_plain (g j : Nat) : (⟨g, 0, none⟩ : Addr).add j = ⟨g, j, none⟩ := by
  unfold Addr.add
  split
  · rename_i h; subst h; rfl
  · simp

theorem below_drewN {B : Nat} {a w : World} (h : Below B a w) (n : Nat) : Below B a (w.drewN n) := ⟨h.os, h.tape, h.output, h.size, h.block⟩
/-- A call made behind some steps: what it leaves stands since the first. -/
theorem below_then {B : Nat} {a b c : World} (h : Below B a b) (hB : B ≤ b.heap.size) (k : Below b.heap.size b c) : Below B a c := h.trans (k.mono hB)
theorem grownBy_of_below {w w1 : World} (h : Below w.heap.size w w1) (row : Option Nat) : w.grownBy w1 row := ⟨h.os, h.tape, h.output, h.size, fun i hi _ => h.block i hi⟩
theorem grownBy_trans {w w1 w2 : World} {row : Option Nat} (h : w.grownBy w1 row) (k : w1.grownBy w2 row) : w.grownBy w2 row :=
  ⟨k.os.trans h.os, k.tape.trans h.tape, k.output.trans h.output, Nat.le_trans h.size k.size, fun i hi hn => (k.block i (Nat.lt_of_lt_of_le hi h.size) hn).trans (h.block i hi hn)⟩
/-- What grows by a row that is new since the first world has turned nothing of the first. -/
theorem below_grown {B : Nat} {a b c : World} {g : Nat} (h : Below B a b) (hB : B ≤ b.heap.size) (k : b.grownBy c (some g)) (hg : B ≤ g) : Below B a c :=
  h.trans ⟨k.os, k.tape, k.output, k.size, fun i hi => k.block i (by omega) (fun e => by injection e; omega)⟩

section
variable {P : Program} {f : FuncId} {args : Array Value} {w : World} {a n : Nat} {v : Value}
/-- A quiet call behind a quiet region. -/
theorem quiet_add (h : Calls P f args (w.drewN (a + n)) fun e w' => e = .returned v ∧ ∃ m, w' = (w.drewN (a + n)).drewN m) :
    Calls P f args (w.drewN (a + n)) fun e w'' => e = .returned v ∧ ∃ m, w'' = w.drewN (a + m) :=
  h.mono fun _ _ ⟨he, m, hm⟩ => ⟨he, n + m, by rw [hm, World.drewN_drewN, Nat.add_assoc]⟩
theorem quiet_add_left (h : Calls P f args (w.drewN (a + n)) fun e w' => e = .returned v ∧ w.drewN (a + n) = w') :
    Calls P f args (w.drewN (a + n)) fun e w'' => e = .returned v ∧ ∃ m, w'' = w.drewN (a + m) :=
  h.mono fun _ _ ⟨he, hm⟩ => ⟨he, n, hm.symm⟩
theorem quiet_left (h : Calls P f args (w.drewN n) fun e w' => e = .returned v ∧ w.drewN n = w') :
    Calls P f args (w.drewN n) fun e w'' => e = .returned v ∧ ∃ m, w'' = w.drewN m :=
  h.mono fun _ _ ⟨he, hm⟩ => ⟨he, n, hm.symm⟩
end

/-! ### limbs that are read -/
/-- At the slice's address A stand the numbers xs, below block B. -/
structure Lim (w : World) (B : Nat) (A : Option Addr) (xs : List Nat) : Prop where
  small : Small xs
  cells : 0 < xs.length → ∃ ad, A = some ad ∧ ad.block < B ∧ ∀ j, j < xs.length → w.cell? (ad.add j) = some (.int .u64 ((xs.getD j 0 : Nat) : Int))
section
variable {w w' : World} {B B' : Nat} {A : Option Addr} {xs : List Nat}
theorem Lim.at_ (h : Lim w B A xs) {k : Nat} (hk : k < xs.length) : ∃ ad, A = some ad ∧ ad.block < B ∧ w.cell? (ad.add k) = some (.int .u64 ((xs.getD k 0 : Nat) : Int)) := by
  obtain ⟨ad, e, hb, hc⟩ := h.cells (by omega)
  exact ⟨ad, e, hb, hc k hk⟩
theorem Lim.nil (w : World) (B : Nat) (A : Option Addr) : Lim w B A [] := ⟨Small.nil, fun h => absurd h (by simp)⟩
theorem Lim.keep (h : Lim w B A xs) (hk : ∀ p : Addr, p.block < B → w'.cell? p = w.cell? p) (hB : B ≤ B') : Lim w' B' A xs :=
  ⟨h.small, fun hn => by
    obtain ⟨ad, e, hb, hc⟩ := h.cells hn
    exact ⟨ad, e, by omega, fun j hj => (hk _ (by rw [block_of_add]; exact hb)).trans (hc j hj)⟩⟩
theorem Lim.more (h : Lim w B A xs) (hB : B ≤ B') : Lim w B' A xs := h.keep (fun _ _ => rfl) hB
theorem Lim.below (h : Lim w B A xs) (hb : Below B w w') : Lim w' B A xs := h.keep (fun _ hp => hb.cell hp) (Nat.le_refl _)
/-- Behind a call. -/
theorem Lim.call (h : Lim w B A xs) (hB : B ≤ w.heap.size) (hb : Below w.heap.size w w') : Lim w' w'.heap.size A xs :=
  h.keep (fun _ hp => hb.cell (by omega)) (Nat.le_trans hB hb.size)
theorem Lim.drewN (h : Lim w B A xs) (n : Nat) : Lim (w.drewN n) B A xs := ⟨h.small, h.cells⟩
theorem Lim.alloc (h : Lim w B A xs) (hB : B ≤ w.heap.size) (o : Obj) : Lim (w.alloc o) B A xs := h.keep (fun p hp => World.cell?_alloc_lt w o p (by omega)) (Nat.le_refl _)
theorem Lim.setCell (h : Lim w B A xs) {p : Addr} (hB : B ≤ p.block) (u : Value) : Lim (w.setCell p u) B A xs :=
  h.keep (fun q hq => World.cell?_setCell_other w p q u (fun e => by subst e; omega)) (Nat.le_refl _)
theorem Lim.take (h : Lim w B A xs) (n : Nat) : Lim w B A (xs.take n) :=
  ⟨h.small.take n, fun hn => by
    rw [List.length_take] at hn
    obtain ⟨ad, e, hb, hc⟩ := h.cells (by omega)
    refine ⟨ad, e, hb, fun j hj => ?_⟩
    rw [List.length_take] at hj
    rw [hc j (by omega)]
    simp [show j < n by omega]⟩
theorem Lim.cut (h : Lim w B A xs) {k cap : Nat} (hc : xs.length ≤ cap) : Lim w B (if cap = k then A else A.map (·.add k)) (xs.drop k) := by
  refine ⟨h.small.drop k, fun hn => ?_⟩
  rw [List.length_drop] at hn
  obtain ⟨ad, rfl, hb, hcell⟩ := h.cells (by omega)
  rw [if_neg (by omega)]
  refine ⟨ad.add k, rfl, by rw [block_of_add]; exact hb, fun j hj => ?_⟩
  rw [List.length_drop] at hj
  rw [add_of_add, hcell _ (by omega)]
  simp
theorem Lim.drop {b o : Nat} (h : Lim w B (some ⟨b, o, none⟩) xs) (k : Nat) : Lim w B (some ⟨b, o + k, none⟩) (xs.drop k) := by
  refine ⟨h.small.drop k, fun hn => ?_⟩
  rw [List.length_drop] at hn
  obtain ⟨ad, e, hb, hcell⟩ := h.cells (by omega)
  injection e with e
  subst e
  refine ⟨_, rfl, hb, fun j hj => ?_⟩
  rw [List.length_drop] at hj
  have h1 := hcell (k + j) (by omega)
  have e1 : (⟨b, o, none⟩ : Addr).add (k + j) = (⟨b, o + k, none⟩ : Addr).add j := by
    have : (⟨b, o + k, none⟩ : Addr) = (⟨b, o, none⟩ : Addr).add k := by
      unfold Addr.add; split
      · rename_i h; subst h; rfl
      · rfl
    rw [this, add_of_add]
  rw [e1] at h1
  rw [h1]
  simp
end

/-! ### a row of limbs that the call fills -/
/-- Block g holds numbers; its first ones are os. -/
structure Row (w : World) (g : Nat) (os : List Nat) : Prop where
  small : Small os
  row : ∃ (t : TypeId) (cs : Array Value), w.heap[g]? = some (.cells cs t (0, 0)) ∧ os.length ≤ cs.size ∧ ∀ i, i < os.length → cs[i]? = some (.int .u64 ((os.getD i 0 : Nat) : Int))
section
variable {w w' : World} {g : Nat} {os : List Nat}
theorem Row.cell (h : Row w g os) {k : Nat} (hk : k < os.length) : w.cell? ⟨g, k, none⟩ = some (.int .u64 ((os.getD k 0 : Nat) : Int)) := by
  obtain ⟨t, cs, hb, _, hc⟩ := h.row
  rw [cell_of_row w g k cs _ (0, 0) hb]
  exact hc k hk
theorem Row.free (h : Row w g os) (k : Nat) : w.frozen? ⟨g, k, none⟩ = false := by
  obtain ⟨t, cs, hb, _, _⟩ := h.row
  simp [World.frozen?, hb]
theorem Row.lt (h : Row w g os) : g < w.heap.size := by
  obtain ⟨t, cs, hb, _, _⟩ := h.row
  exact (Array.getElem?_eq_some_iff.1 hb).1
theorem Row.of_block (h : Row w g os) (e : w'.heap[g]? = w.heap[g]?) : Row w' g os := by
  obtain ⟨t, cs, hb, hs, hc⟩ := h.row
  exact ⟨h.small, t, cs, e.trans hb, hs, hc⟩
theorem Row.below {B : Nat} (h : Row w g os) (hb : Below B w w') (hg : g < B) : Row w' g os := h.of_block (hb.block g hg)
theorem Row.call (h : Row w g os) (hb : Below w.heap.size w w') : Row w' g os := h.of_block (hb.block g h.lt)
theorem Row.alloc (h : Row w g os) (o : Obj) : Row (w.alloc o) g os := h.of_block (Below.heap_alloc w o g h.lt)
theorem Row.far (h : Row w g os) {p : Addr} (hp : g ≠ p.block) (u : Value) : Row (w.setCell p u) g os := h.of_block (Below.heap_setCell w p u g hp)
theorem Row.drewN (h : Row w g os) (n : Nat) : Row (w.drewN n) g os := h.of_block rfl
theorem Row.take (h : Row w g os) (n : Nat) : Row w g (os.take n) := by
  obtain ⟨t, cs, hb, hs, hc⟩ := h.row
  refine ⟨h.small.take n, t, cs, hb, by rw [List.length_take]; omega, fun i hi => ?_⟩
  rw [List.length_take] at hi
  rw [hc i (by omega)]
  simp [show i < n by omega]
theorem Row.set (h : Row w g os) {k x : Nat} (hk : k < os.length) (hx : x < W64) : Row (w.setCell ⟨g, k, none⟩ (.int .u64 (x : Int))) g (os.set k x) := by
  obtain ⟨t, cs, hb, hs, hc⟩ := h.row
  refine ⟨h.small.set k x hx, t, cs.setIfInBounds k (.int .u64 (x : Int)), ?_, by simpa using hs, fun i hi => ?_⟩
  · simp [World.setCell, Array.getElem?_modify, hb]
  · rw [List.length_set] at hi
    rw [Array.getElem?_setIfInBounds]
    by_cases e : k = i
    · subst e
      have : k < cs.size := by omega
      simp [this, hk]
    · rw [if_neg e, hc i hi]
      simp [e]
/-- New, all noughts. -/
theorem Row.made (w : World) (n : Nat) {t : TypeId} : Row (w.alloc (.cells (madeCells #[.int .u64 0] n) t)) w.heap.size (List.replicate n 0) := by
  refine ⟨Small.zeros n, _, _, heap_alloc_new w _, by simp [size_madeCells], fun i hi => ?_⟩
  rw [List.length_replicate] at hi
  rw [← Array.getElem?_toList, toList_madeCells_one]
  simp [hi]
theorem Row.lim (h : Row w g os) {B : Nat} (hg : g < B) : Lim w B (some ⟨g, 0, none⟩) os :=
  ⟨h.small, fun _ => ⟨_, rfl, hg, fun j hj => by rw [add_plain]; exact h.cell hj⟩⟩
end

/-! ### what is appended to -/
def nums (xs : List Nat) : List Value := xs.map fun x : Nat => .int .u64 (x : Int)
theorem nums_length (xs : List Nat) : (nums xs).length = xs.length := by simp [nums]
theorem nums_append (xs ys : List Nat) : nums (xs ++ ys) = nums xs ++ nums ys := by simp [nums]
/-- The slice value v is nil or the call's own (from block base on), and holds xs. -/
structure Own (w : World) (base : Nat) (v : Value) (xs : List Nat) : Prop where
  small : Small xs
  own : w.ownsRow base 53 1 v xs.length (nums xs)
theorem Own.nil (w : World) (base : Nat) : Own w base (.slice none 0 0) [] := ⟨Small.nil, by simp [nums], .inl ⟨rfl, rfl⟩⟩
theorem Own.below {w w' : World} {base : Nat} {v : Value} {xs : List Nat} (h : Own w base v xs) (hb : Below w.heap.size w w') : Own w' base v xs :=
  ⟨h.small, h.own.kept (grownBy_of_below hb none) (by cases v.ownBlock <;> simp)⟩
theorem Own.alloc {w : World} {base : Nat} {v : Value} {xs : List Nat} (h : Own w base v xs) (o : Obj) : Own (w.alloc o) base v xs := h.below ((Below.refl _ _).alloc (Nat.le_refl _) o)
theorem Own.form {w : World} {base : Nat} {v : Value} {xs : List Nat} (h : Own w base v xs) : ∃ A c, v = .slice A xs.length c ∧ xs.length ≤ c ∧ Lim w w.heap.size A xs ∧ (xs = [] ∨ ∃ g, A = some ⟨g, 0, none⟩ ∧ base ≤ g ∧ Row w g xs) := by
  have hs := h.small
  rcases h.own.2 with ⟨rfl, hx⟩ | ⟨g, cap, cur, rfl, hg, hh, hnc, h63, hcap, hpre⟩
  · have e : xs = [] := by simpa [nums] using hx
    subst e
    exact ⟨none, 0, rfl, by simp, Lim.nil _ _ _, .inl rfl⟩
  · have hcells : ∀ i, i < xs.length → w.cell? ⟨g, i, none⟩ = some (.int .u64 ((xs.getD i 0 : Nat) : Int)) := fun i hi => by
      have h1 := h.own.cells (g := g) rfl i (.int .u64 ((xs.getD i 0 : Nat) : Int)) (by simp [nums, hi])
      rwa [add_plain] at h1
    refine ⟨_, cap, rfl, hnc, ⟨hs, fun _ => ⟨_, rfl, (Array.getElem?_eq_some_iff.1 hh).1, fun j hj => by rw [add_plain]; exact hcells j hj⟩⟩, .inr ⟨g, rfl, hg, hs, _, cur, hh, ?_, fun i hi => ?_⟩⟩
    · rcases Nat.lt_or_ge cur.size xs.length with hlt | hge
      · exfalso
        have h1 := hcells cur.size hlt
        rw [cell_of_row w g _ cur _ (0, 0) hh] at h1
        simp at h1
      · exact hge
    · have h1 := hcells i hi
      rwa [cell_of_row w g i cur _ (0, 0) hh] at h1

theorem Own.prefix {w : World} {base : Nat} {A : Option Addr} {c : Nat} {xs : List Nat} (h : Own w base (.slice A xs.length c) xs) {n : Nat} (hn : n ≤ xs.length) : Own w base (.slice A n c) (xs.take n) := by
  have hl : (xs.take n).length = n := by rw [List.length_take]; omega
  refine ⟨h.small.take n, by simp [nums], ?_⟩
  rw [hl]
  rcases h.own.2 with ⟨hv, hx⟩ | ⟨g, cap, cur, hv, hg, hh, hnc, h63, hcap, hpre⟩
  · have : n = 0 := by omega
    subst this
    injection hv with h1 h2 h3
    exact .inl ⟨by rw [h1, h3], rfl⟩
  · injection hv with h1 h2 h3
    refine .inr ⟨g, cap, cur, by rw [h1, h3], hg, hh, by omega, h63, hcap, ?_⟩
    rw [Nat.mul_one] at hpre ⊢
    have := congrArg (List.take n) hpre
    rw [List.take_take, Nat.min_eq_left hn] at this
    rw [this]; simp [nums]
theorem Own.trim {w : World} {base : Nat} {A : Option Addr} {c : Nat} {xs : List Nat} (h : Own w base (.slice A xs.length c) xs) : Own w base (.slice A (limbs (val xs)).length c) (limbs (val xs)) := by
  have h1 := length_trimL_le xs
  have h2 := h.prefix h1
  rw [← trimL_prefix, trimL_eq h.small] at h2
  exact h2
theorem info_u64 : (Try.prog.info? 53).map (fun i => (i.zero, i.size, i.bytes)) = some (some (.int .u64 0), 1, 8) := by kernel_rfl
section
variable {ops : Array Oper} {rest : List Oper} {o : Oper} {a : Act} {Q : Exit → Act → World → Prop}
/-- append(v, src...): behind 'at_builtin'. -/
theorem append_any {w0 W : World} (base : Nat) (hgd : o.guard = none) (s x : Operand)
    (ho : o.op = .call { callee := .builtin .append, args := #[s, x], argTypes := #[22, 22] })
    (v : Value) (xs : List Nat) (ad : Addr) (m c : Nat) (ys : List Nat) (hs : a.eval s = v) (hx : a.eval x = .slice (some ad) m c) (hm : m = ys.length)
    (hcell : ∀ j, j < ys.length → W.cell? (ad.add j) = some (.int .u64 ((ys.getD j 0 : Nat) : Int))) (hsm : Small ys)
    (HO : Own W base v xs) (HB : Below base w0 W) (hbase : base ≤ W.heap.size) (hl : xs.length + ys.length ≤ 17592186044416)
    (h : ∀ v1 w1, Own w1 base v1 (xs ++ ys) → Below base w0 w1 → W.grownBy w1 v.ownBlock → (v1.ownBlock = v.ownBlock ∨ v1.ownBlock = some W.heap.size) → wpList Try.prog ops Q rest (a.put o.dst v1) w1) :
    wpList Try.prog ops Q (o :: rest) a W := by
  obtain ⟨i0, hi, hz0, hz1, hz2⟩ := info_parts info_u64
  subst hm
  refine wpList_append_own_at W hgd s x 22 ho base 53 i0 (.int .u64 0) 1 8 Try.underlying22 hi hz0 hz1 hz2 rfl (by omega) v xs.length (nums xs) hs HO.own ad ys.length c (nums ys) hx (by simp [nums])
    (fun j u hu => ?_) (fun u hu => ?_) (by simp only [maxLen]; omega) (by omega) hbase ?_
  · have hj : j < ys.length := by
      have := (List.getElem?_eq_some_iff.1 hu).1
      simpa [nums] using this
    rw [hcell j hj, ← hu]
    simp [nums, hj]
  · obtain ⟨y, _, rfl⟩ := List.mem_map.1 hu
    rfl
  · intro v1 w1 hown hg _ hat
    refine h v1 w1 ⟨HO.small.append hsm, by rw [List.length_append, nums_append]; exact hown⟩ (HB.grown hg hbase fun k hk => ?_) hg hat
    rcases HO.own.2 with ⟨rfl, _⟩ | ⟨g, cap, cur, rfl, hg', _⟩
    · simp [Value.ownBlock] at hk
    · simp only [Value.ownBlock, Option.some.injEq] at hk
      omega
theorem run_append_of_nil (W : World) (base : Nat) (t ty e : TypeId) (i : TypeInfo) (size : Nat) (ht : Try.prog.underlying t = some (.slice e)) (hi : Try.prog.info? e = some i)
    (v : Value) (n : Nat) (xs : List Value) (hown : W.ownsRow base e size v n xs) (c : Nat) : (Builtin.append_ #[t, t] ty #[v, .slice none 0 c]).run Try.prog W = .ok v W := by
  rcases hown.2 with ⟨rfl, rfl⟩ | ⟨g, cap, cur, rfl, _, _, hnc, _⟩
  · simp [Builtin.append_, run_underlying ht, sizeOf, typeInfo, hi, Builtin.lenOf, Builtin.firstCells]
  · simp [Builtin.append_, run_underlying ht, sizeOf, typeInfo, hi, Builtin.lenOf, Builtin.firstCells, hnc, storeCells]
/-- append(v, src...), the source any slice that is read. -/
theorem append_lim {w0 W : World} {B : Nat} (base : Nat) (hgd : o.guard = none) (s x : Operand)
    (ho : o.op = .call { callee := .builtin .append, args := #[s, x], argTypes := #[22, 22] })
    (v : Value) (xs : List Nat) (A : Option Addr) (m c : Nat) (ys : List Nat) (hs : a.eval s = v) (hx : a.eval x = .slice A m c) (hm : m = ys.length)
    (hlim : Lim W B A ys)
    (HO : Own W base v xs) (HB : Below base w0 W) (hbase : base ≤ W.heap.size) (hl : xs.length + ys.length ≤ 17592186044416)
    (h : ∀ v1 w1, Own w1 base v1 (xs ++ ys) → Below base w0 w1 → W.grownBy w1 v.ownBlock → (v1.ownBlock = v.ownBlock ∨ v1.ownBlock = some W.heap.size) → wpList Try.prog ops Q rest (a.put o.dst v1) w1) :
    wpList Try.prog ops Q (o :: rest) a W := by
  cases A with
  | some ad =>
    refine append_any base hgd s x ho v xs ad m c ys hs hx hm (fun j hj => ?_) hlim.small HO HB hbase hl h
    obtain ⟨ad', e, _, hc⟩ := hlim.at_ hj
    injection e with e
    subst e
    exact hc
  | none =>
    have hy : ys = [] := by
      rcases Nat.eq_zero_or_pos ys.length with h0 | h0
      · exact List.eq_nil_of_length_eq_zero h0
      · obtain ⟨ad, e, _⟩ := hlim.cells h0
        cases e
    subst hy
    subst hm
    obtain ⟨i0, hi, hz0, hz1, hz2⟩ := info_parts info_u64
    have hrun := run_append_of_nil W base 22 o.type 53 i0 1 Try.underlying22 hi v xs.length (nums xs) HO.own c
    refine wpList_plain hgd fun K hK => ?_
    unfold Oper.wp execOp
    simp only [ho, resolve, invoke, builtin, Sem.run_bind, Sem.run_pure, Result.andThen_ok, List.map_toArray, List.map_cons, List.map_nil, hs, hx, List.length_nil, hrun]
    exact hK _ _ (h v W (by rw [List.append_nil]; exact HO) HB (World.grownBy.refl W _) (.inl rfl))
/-- append(v, y): the goal's world is 'W.alloc' of the variadic's box. -/
theorem append_one {w0 W : World} (base : Nat) (hgd : o.guard = none) (s x : Operand)
    (ho : o.op = .call { callee := .builtin .append, args := #[s, x], argTypes := #[22, 22] })
    (v : Value) (xs : List Nat) (y : Nat) (hs : a.eval s = v) (hx : a.eval x = .slice (some ⟨W.heap.size, 0, none⟩) 1 1) (hy : y < W64)
    (HO : Own W base v xs) (HB : Below base w0 W) (hbase : base ≤ W.heap.size) (hl : xs.length + 1 ≤ 17592186044416)
    (h : ∀ v1 w1, Own w1 base v1 (xs ++ [y]) → Below base w0 w1 → W.grownBy w1 v.ownBlock → wpList Try.prog ops Q rest (a.put o.dst v1) w1) :
    wpList Try.prog ops Q (o :: rest) a (W.alloc (.cells #[.int .u64 (y : Int)] 53)) := by
  refine append_any (w0 := w0) base hgd s x ho v xs ⟨W.heap.size, 0, none⟩ 1 1 [y] hs hx rfl (fun j hj => ?_) (Small.one hy) (HO.alloc _) (HB.alloc hbase _) (by simp; omega) (by simpa using hl) ?_
  · have e : j = 0 := by simpa using hj
    subst e
    rw [add_plain, cell_of_row _ _ _ _ _ (0, 0) (heap_alloc_new W _)]
    rfl
  · intro v1 w1 h1 h2 h3 _
    exact h v1 w1 h1 h2 (grownBy_trans ((grownBy_of_below ((Below.refl _ W).alloc (Nat.le_refl _) _) _)) h3)
end
/-- make([]uint64, n, c) -/
theorem make_limbs_cap (n c : Nat) (hn : n ≤ c) (h : c ≤ 35184372088832) : ∀ W : World, (Instr.makeSlice 22 (.int .u64 (n : Int)) (.int .i64 (c : Int))).run Try.prog W = .ok (.slice (some ⟨W.heap.size, 0, none⟩) n c) (W.alloc (.cells (madeCells #[.int .u64 0] c) 53)) := by
  intro W
  obtain ⟨i0, hi, hz0, hz1, hz2⟩ := info_parts info_u64
  have hr := run_make (P := Try.prog) W 22 53 i0 (.int .u64 0) Try.underlying22 hi hz0 .u64 .i64 n c (by omega) (by omega) (by rw [hz2]; omega) (by omega)
  simp only [Int.toNat_natCast, hz1, Nat.mul_one] at hr
  exact hr
theorem Own.made (W : World) (base n c : Nat) (hb : base ≤ W.heap.size) (hn : n ≤ c) (hc : c ≤ 35184372088832) : Own (W.alloc (.cells (madeCells #[.int .u64 0] c) 53)) base (.slice (some ⟨W.heap.size, 0, none⟩) n c) (List.replicate n 0) := by
  refine ⟨Small.zeros n, by simp [nums], .inr ⟨W.heap.size, c, _, by simp, hb, heap_alloc_new W _, by simpa using hn, by simp only [maxLen]; omega, by simp [size_madeCells], ?_⟩⟩
  rw [toList_madeCells_one]
  simp [nums, Nat.min_eq_left hn]

/-- make([]uint64, n) -/
theorem make_limbs (n : Nat) (h : n ≤ 35184372088832) : ∀ W : World, (Instr.makeSlice 22 (.int .i64 (n : Int)) (.int .i64 (n : Int))).run Try.prog W = .ok (.slice (some ⟨W.heap.size, 0, none⟩) n n) (W.alloc (.cells (madeCells #[.int .u64 0] n) 53)) :=
  fun W => run_make_row' (P := Try.prog) 22 53 (.int .u64 0) 8 Try.underlying22 info_u64 rfl .i64 .i64 n (by omega) (by omega) W
theorem make_limbs_succ (n : Nat) (h : n < 35184372088832) : ∀ W : World, (Instr.makeSlice 22 (.int .i64 ((n : Int) + 1)) (.int .i64 ((n : Int) + 1))).run Try.prog W = .ok (.slice (some ⟨W.heap.size, 0, none⟩) (n + 1) (n + 1)) (W.alloc (.cells (madeCells #[.int .u64 0] (n + 1)) 53)) := by
  have := make_limbs (n + 1) (by omega)
  rwa [Int.natCast_add, Int.natCast_one] at this

/-! ### math/bits' adding and taking away -/
def addLo (x y c : Nat) : Nat := (x + y + c) % W64
def addHi (x y c : Nat) : Nat := (x + y + c) / W64
def subLo (x y b : Nat) : Nat := (x + W64 - y - b) % W64
def subHi (x y b : Nat) : Nat := if x < y + b then 1 else 0
theorem add_split (x y c : Nat) : addLo x y c + W64 * addHi x y c = x + y + c := Nat.mod_add_div _ _
theorem addLo_lt (x y c : Nat) : addLo x y c < W64 := Nat.mod_lt _ W64_pos
theorem addHi_le {x y c : Nat} (hx : x < W64) (hy : y < W64) (hc : c ≤ 1) : addHi x y c ≤ 1 := by
  have : addHi x y c < 2 := Nat.div_lt_of_lt_mul (by omega)
  omega
theorem sub_split {x y b : Nat} (hx : x < W64) (hy : y < W64) (hb : b ≤ 1) : subLo x y b + y + b = x + W64 * subHi x y b := by
  unfold subLo subHi
  split
  · rw [Nat.mod_eq_of_lt (by omega)]; omega
  · rw [show x + W64 - y - b = (x - y - b) + W64 by omega, Nat.add_mod_right, Nat.mod_eq_of_lt (by omega)]; omega
theorem subLo_lt (x y b : Nat) : subLo x y b < W64 := Nat.mod_lt _ W64_pos
theorem subHi_le (x y b : Nat) : subHi x y b ≤ 1 := by unfold subHi; split <;> omega

theorem add64_run (x y c : Nat) (hc : c ≤ 1) (w : World) :
    (callFunc 47 #[.int .u64 x, .int .u64 y, .int .u64 c]).run Try.prog w = .ok (.value (.tuple #[.int .u64 ((addLo x y c : Nat) : Int), .int .u64 ((addHi x y c : Nat) : Int)])) w := by
  rw [run_callFunc_extern Try.func47 (by kernel_rfl) (by kernel_rfl) (by kernel_rfl) (e := add64Entry) (by kernel_rfl), run_add64 x y c (by omega) (by omega) (by omega) (by omega)]
  simp only [Result.andThen, addLo, addHi, W64_eq]
  congr 5 <;> omega
theorem add64_run0 (x y : Nat) (w : World) :
    (callFunc 47 #[.int .u64 x, .int .u64 y, .int .u64 0]).run Try.prog w = .ok (.value (.tuple #[.int .u64 ((addLo x y 0 : Nat) : Int), .int .u64 ((addHi x y 0 : Nat) : Int)])) w := by
  have h := add64_run x y 0 (by omega) w
  rwa [Int.natCast_zero] at h
theorem sub64_run (x y b : Nat) (hb : b ≤ 1) (w : World) :
    (callFunc 48 #[.int .u64 x, .int .u64 y, .int .u64 b]).run Try.prog w = .ok (.value (.tuple #[.int .u64 ((subLo x y b : Nat) : Int), .int .u64 ((subHi x y b : Nat) : Int)])) w := by
  rw [run_callFunc_extern Try.func48 (by kernel_rfl) (by kernel_rfl) (by kernel_rfl) (e := sub64Entry) (by kernel_rfl), run_sub64 x y b hb]
  simp only [Result.andThen, subLo, subHi, W64_eq]

end Go.Proofs.Ytonbhpadoplpkaa
