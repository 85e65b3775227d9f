import Derived.Test.YtonbhpadoplpkaaPoly
/- Rows of records (sign, limbs) that the call makes. -/
namespace Go.Proofs.Ytonbhpadoplpkaa
open Go.RowKit Go.Deep
/-- Records as cells. -/
def recs (l : List (Bool × Value)) : List Value := l.flatMap fun p => [.bool p.1, p.2]
theorem recs_length (l : List (Bool × Value)) : (recs l).length = l.length * 2 := by
  induction l with
  | nil => rfl
  | cons p l ih => unfold recs at ih ⊢; simp [List.flatMap_cons, ih]; omega
theorem recs_append (l m : List (Bool × Value)) : recs (l ++ m) = recs l ++ recs m := by simp [recs]
theorem recs_get (l : List (Bool × Value)) {j : Nat} (hj : j < l.length) {p : Bool × Value} (hp : l.getD j p = p) : (recs l)[2 * j]? = some (.bool p.1) ∧ (recs l)[2 * j + 1]? = some p.2 := by
  induction l generalizing j with
  | nil => simp at hj
  | cons q l ih =>
    have e : recs (q :: l) = .bool q.1 :: q.2 :: recs l := by simp [recs]
    rw [e]
    cases j with
    | zero => simp at hp; subst hp; simp
    | succ j =>
      rw [show 2 * (j + 1) = 2 * j + 2 by omega]
      simp only [List.getElem?_cons_succ]
      exact ih (by simpa using hj) (by simpa using hp)
theorem recs_set0 (l : List (Bool × Value)) {j : Nat} (hj : j < l.length) (b : Bool) {p : Bool × Value} (hp : l.getD j p = p) : (recs l).set (2 * j) (.bool b) = recs (l.set j (b, p.2)) := by
  induction l generalizing j with
  | nil => simp at hj
  | cons q l ih =>
    have e : ∀ q l, recs (q :: l) = .bool q.1 :: q.2 :: recs l := fun q l => by simp [recs]
    rw [e]
    cases j with
    | zero => simp at hp; subst hp; simp [e]
    | succ j =>
      rw [show 2 * (j + 1) = 2 * j + 1 + 1 by omega]
      simp only [List.set_cons_succ, e]
      rw [ih (by simpa using hj) (by simpa using hp)]
theorem recs_set1 (l : List (Bool × Value)) {j : Nat} (hj : j < l.length) (v : Value) {p : Bool × Value} (hp : l.getD j p = p) : (recs l).set (2 * j + 1) v = recs (l.set j (p.1, v)) := by
  induction l generalizing j with
  | nil => simp at hj
  | cons q l ih =>
    have e : ∀ q l, recs (q :: l) = .bool q.1 :: q.2 :: recs l := fun q l => by simp [recs]
    rw [e]
    cases j with
    | zero => simp at hp; subst hp; simp [e]
    | succ j =>
      rw [show 2 * (j + 1) + 1 = 2 * j + 1 + 1 + 1 by omega]
      simp only [List.set_cons_succ, e]
      rw [ih (by simpa using hj) (by simpa using hp)]

theorem getD_self {α : Type} (l : List α) (j : Nat) (d : α) : l.getD j (l.getD j d) = l.getD j d := by
  simp only [List.getD_eq_getElem?_getD]
  cases l[j]? <;> rfl
/-- A record that is 0. -/
def rec0 : Bool × Value := (false, .slice none 0 0)
/-- The value v is nil or the call's own row of the records l, of which the first hold xs; all between the blocks base and top. -/
structure Recs (w : World) (base top : Nat) (v : Value) (l : List (Bool × Value)) (xs : List Raw) : Prop where
  own : w.ownsRow base 24 2 v l.length (recs l)
  len : xs.length ≤ l.length
  low : base ≤ top
  lt : ∀ g, v.ownBlock = some g → g < top
  mag : ∀ j, j < xs.length → (l.getD j rec0).1 = (xs.getD j (false, [])).1 ∧ Own w base (l.getD j rec0).2 (xs.getD j (false, [])).2 ∧ ∀ g, (l.getD j rec0).2.ownBlock = some g → g < top
  apart : ∀ i j, i < j → j < xs.length → ∀ g h, (l.getD i rec0).2.ownBlock = some g → (l.getD j rec0).2.ownBlock = some h → g < h
section
variable {w w' : World} {base top : Nat} {v : Value} {l : List (Bool × Value)} {xs : List Raw}
theorem Own.type {g : Nat} {ys : List Nat} {u : Value} (h : Own w base u ys) (hg : u.ownBlock = some g) : ∃ cs, w.heap[g]? = some (.cells cs 53 (0, 0)) := by
  rcases h.own.2 with ⟨rfl, _⟩ | ⟨g', cap, cur, rfl, _, hh, _⟩
  · simp [Value.ownBlock] at hg
  · simp [Value.ownBlock] at hg; subst hg; exact ⟨cur, hh⟩
theorem Own.lt {g : Nat} {ys : List Nat} {u : Value} (h : Own w base u ys) (hg : u.ownBlock = some g) : g < w.heap.size := (h.own.lt g hg).2
theorem Own.mono {base' : Nat} {ys : List Nat} {u : Value} (h : Own w base u ys) (hb : base' ≤ base) : Own w base' u ys := by
  refine ⟨h.small, h.own.1, ?_⟩
  rcases h.own.2 with hn | ⟨g, cap, cur, e, hg, rest⟩
  · exact .inl hn
  · exact .inr ⟨g, cap, cur, e, Nat.le_trans hb hg, rest⟩
theorem Own.grown {row : Option Nat} {ys : List Nat} {u : Value} (h : Own w base u ys) (hg : w.grownBy w' row) (hne : u.ownBlock = none ∨ u.ownBlock ≠ row) : Own w' base u ys := ⟨h.small, h.own.kept hg hne⟩
theorem Own.slice {ys : List Nat} {u : Value} (h : Own w base u ys) : ∃ A k c, u = .slice A k c := by
  obtain ⟨A, c, e, _⟩ := h.form
  exact ⟨A, _, c, e⟩
theorem own_cases (u : Value) : u.ownBlock = none ∨ ∃ g, u.ownBlock = some g := by cases u.ownBlock <;> simp
/-- A cell of another block was written. -/
theorem Own.far {ys : List Nat} {u : Value} (h : Own w base u ys) (p : Addr) (x : Value) (hne : ∀ g, u.ownBlock = some g → g ≠ p.block) : Own (w.setCell p x) base u ys :=
  h.grown (row := some p.block) ⟨rfl, rfl, rfl, by simp, fun k _ hk => Below.heap_setCell _ _ _ k (fun e => hk (by rw [e]))⟩ (by
    rcases own_cases u with h | ⟨g, h⟩
    · exact .inl h
    · right; rw [h]; intro e; injection e with e; exact hne g h e)
theorem Recs.below (h : Recs w base top v l xs) (hb : Below top w w') : Recs w' base top v l xs := by
  have key : ∀ (e : TypeId) (size n : Nat) (u : Value) (ys : List Value), w.ownsRow base e size u n ys → (∀ g, u.ownBlock = some g → g < top) → w'.ownsRow base e size u n ys := by
    intro e size n u ys ho hlt
    refine ⟨ho.1, ?_⟩
    rcases ho.2 with hn | ⟨g, cap, cur, rfl, hb', hgg, rest⟩
    · exact .inl hn
    · refine .inr ⟨g, cap, cur, rfl, hb', ?_, rest⟩
      rw [hb.block g (hlt g rfl)]
      exact hgg
  exact ⟨key _ _ _ _ _ h.own h.lt, h.len, h.low, h.lt, fun j hj => ⟨(h.mag j hj).1, ⟨(h.mag j hj).2.1.small, key _ _ _ _ _ (h.mag j hj).2.1.own (h.mag j hj).2.2⟩, (h.mag j hj).2.2⟩, h.apart⟩
theorem Recs.rise {top' : Nat} (h : Recs w base top v l xs) (ht : top ≤ top') : Recs w base top' v l xs :=
  ⟨h.own, h.len, Nat.le_trans h.low ht, fun g hg => Nat.lt_of_lt_of_le (h.lt g hg) ht, fun j hj => ⟨(h.mag j hj).1, (h.mag j hj).2.1, fun g hg => Nat.lt_of_lt_of_le ((h.mag j hj).2.2 g hg) ht⟩, h.apart⟩
/-- The records' row is none of the limbs' rows. -/
theorem Recs.off {R n c : Nat} (h : Recs w base top (.slice (some ⟨R, 0, none⟩) n c) l xs) {j : Nat} (hj : j < xs.length) {g : Nat} (hg : (l.getD j rec0).2.ownBlock = some g) : g ≠ R := by
  intro e
  subst e
  obtain ⟨cs, hc⟩ := (h.mag j hj).2.1.type hg
  rcases h.own.2 with ⟨h', _⟩ | ⟨g', cap, cur, h', _, hh, _⟩
  · simp at h'
  · simp only [Value.slice.injEq, Option.some.injEq, Addr.mk.injEq, and_true] at h'
    obtain ⟨rfl, _⟩ := h'
    rw [hc] at hh
    simp at hh
theorem getD_set_ne {α : Type} (l : List α) {i j : Nat} (h : j ≠ i) (a d : α) : (l.set i a).getD j d = l.getD j d := by
  simp only [List.getD_eq_getElem?_getD, List.getElem?_set_ne (Ne.symm h)]
theorem getD_set_eq {α : Type} (l : List α) {i : Nat} (h : i < l.length) (a d : α) : (l.set i a).getD i d = a := by
  simp [h]
/-- A record behind the told ones is written. -/
theorem Recs.put {R n c i : Nat} (h : Recs w base top (.slice (some ⟨R, 0, none⟩) n c) l xs) (hn : n = l.length) (hi : xs.length ≤ i) (q : Bool × Value) (j : Nat) (u : Value) (e : (recs l).set j u = recs (l.set i q)) :
    Recs (w.setCell ⟨R, j, none⟩ u) base top (.slice (some ⟨R, 0, none⟩) n c) (l.set i q) xs := by
  subst hn
  refine ⟨?_, by rw [List.length_set]; exact h.len, h.low, h.lt, fun k hk => ?_, fun a b hab hb => ?_⟩
  · have h1 := (h.own.stored j u).1
    rw [e] at h1
    rw [List.length_set]; exact h1
  · rw [getD_set_ne _ (by omega)]
    exact ⟨(h.mag k hk).1, (h.mag k hk).2.1.far _ _ (fun g hg => h.off hk hg), (h.mag k hk).2.2⟩
  · rw [getD_set_ne _ (by omega), getD_set_ne _ (by omega)]
    exact h.apart a b hab hb
theorem Recs.sign {R n c i : Nat} (h : Recs w base top (.slice (some ⟨R, 0, none⟩) n c) l xs) (hn : n = l.length) (hi : xs.length ≤ i) (hil : i < l.length) (b : Bool) {p : Bool × Value} (hp : l.getD i rec0 = p) :
    Recs (w.setCell ⟨R, i * 2, none⟩ (.bool b)) base top (.slice (some ⟨R, 0, none⟩) n c) (l.set i (b, p.2)) xs :=
  h.put hn hi _ _ _ (by rw [Nat.mul_comm]; exact recs_set0 l hil b (by rw [← hp]; exact getD_self l i rec0))
theorem Recs.limbs {R n c i : Nat} (h : Recs w base top (.slice (some ⟨R, 0, none⟩) n c) l xs) (hn : n = l.length) (hi : xs.length ≤ i) (hil : i < l.length) (u : Value) {p : Bool × Value} (hp : l.getD i rec0 = p) :
    Recs (w.setCell ⟨R, i * 2 + 1, none⟩ u) base top (.slice (some ⟨R, 0, none⟩) n c) (l.set i (p.1, u)) xs :=
  h.put hn hi _ _ _ (by rw [Nat.mul_comm]; exact recs_set1 l hil u (by rw [← hp]; exact getD_self l i rec0))
/-- One more is told. -/
theorem Recs.push {top' : Nat} {b : Bool} {u : Value} {ys : List Nat} (h : Recs w base top v l xs) (hp : l.getD xs.length rec0 = (b, u)) (hl : xs.length < l.length) (ho : Own w top u ys) (ht : top ≤ top') (hu : ∀ g, u.ownBlock = some g → g < top') :
    Recs w base top' v l (xs ++ [(b, ys)]) := by
  have h' := h.rise ht
  refine ⟨h.own, by simp; omega, h'.low, h'.lt, fun j hj => ?_, fun i j hij hj => ?_⟩
  · by_cases hjx : j < xs.length
    · rw [show (xs ++ [(b, ys)]).getD j (false, []) = xs.getD j (false, []) by simp [List.getElem?_append_left, hjx]]
      exact h'.mag j hjx
    · obtain rfl : j = xs.length := by simp at hj; omega
      rw [hp, show (xs ++ [(b, ys)]).getD xs.length (false, []) = (b, ys) by simp]
      exact ⟨rfl, ho.mono h.low, hu⟩
  · by_cases hjx : j < xs.length
    · exact h.apart i j hij hjx
    · obtain rfl : j = xs.length := by simp at hj; omega
      intro g g' hg hg'
      rw [hp] at hg'
      have h1 := (h.mag i hij).2.2 g hg
      have h2 := (ho.own.lt g' hg').1
      omega
theorem Recs.cell0 {R n c i : Nat} (h : Recs w base top (.slice (some ⟨R, 0, none⟩) n c) l xs) (hi : i < l.length) : w.cell? ⟨R, i * 2, none⟩ = some (.bool (l.getD i rec0).1) := by
  have c0 := h.own.cells (g := R) rfl (2 * i) _ (recs_get l hi (p := l.getD i rec0) (getD_self l i rec0)).1
  rwa [add_plain, Nat.mul_comm] at c0
theorem Recs.cell1 {R n c i : Nat} (h : Recs w base top (.slice (some ⟨R, 0, none⟩) n c) l xs) (hi : i < l.length) : w.cell? ⟨R, i * 2 + 1, none⟩ = some (l.getD i rec0).2 := by
  have c0 := h.own.cells (g := R) rfl (2 * i + 1) _ (recs_get l hi (p := l.getD i rec0) (getD_self l i rec0)).2
  rwa [add_plain, Nat.mul_comm] at c0
theorem Recs.free {R n c : Nat} (h : Recs w base top (.slice (some ⟨R, 0, none⟩) n c) l xs) (hn : n = l.length) (k : Nat) : w.frozen? ⟨R, k, none⟩ = false := by
  subst hn
  exact h.own.frozenAt k
theorem Recs.at_ {R n c : Nat} (h : Recs w base top (.slice (some ⟨R, 0, none⟩) n c) l xs) : R < top ∧ R < w.heap.size ∧ base ≤ R := ⟨h.lt R rfl, (h.own.lt R rfl).2, (h.own.lt R rfl).1⟩
theorem Recs.noNum {R n : Nat} (h : Recs w base top (.slice (some ⟨R, 0, none⟩) n n) l xs) (hn : n = l.length) (hv : ∀ j, xs.length ≤ j → j < l.length → ∃ A k c, (l.getD j rec0).2 = .slice A k c) : NoNum w R := by
  intro p hp k
  obtain ⟨pb, off, sp⟩ := p
  obtain rfl : pb = R := hp
  rcases h.own.2 with ⟨h', _⟩ | ⟨g, cap, cur, h', _, hh, _, _, hcap, hpre⟩
  · simp at h'
  · simp only [Value.slice.injEq, Option.some.injEq, Addr.mk.injEq, and_true] at h'
    obtain ⟨rfl, _, rfl⟩ := h'
    have e : cur.toList = recs l := by
      rw [← hpre, List.take_of_length_le]
      rw [Array.length_toList, hcap, hn]; exact Nat.le_refl _
    unfold World.cell?
    simp only [hh]
    split
    · simp
    · rw [← Array.getElem?_toList, e]
      by_cases ho : off < 2 * l.length
      · obtain ⟨j, hj, hoff⟩ : ∃ j, j < l.length ∧ (off = 2 * j ∨ off = 2 * j + 1) := ⟨off / 2, by omega, by omega⟩
        obtain ⟨f0, f1⟩ := recs_get l hj (p := l.getD j rec0) (getD_self l j rec0)
        rcases hoff with rfl | rfl
        · rw [f0]; simp
        · rw [f1]
          have : ∃ A k c, (l.getD j rec0).2 = .slice A k c := by
            by_cases hjx : j < xs.length
            · obtain ⟨A, c, hA, _⟩ := (h.mag j hjx).2.1.form
              exact ⟨A, _, c, hA⟩
            · exact hv j (by omega) hj
          obtain ⟨A, k', c, hA⟩ := this
          rw [hA]; simp
      · rw [List.getElem?_eq_none (by rw [recs_length]; omega)]; simp
/-- What is told is read. -/
theorem Recs.poly (h : Recs w base top v l xs) (hl : l.length = xs.length) : ∃ A c, v = .slice A xs.length c ∧ xs.length ≤ c ∧ Poly w w.heap.size A xs := by
  have hlen := hl
  rcases h.own.2 with ⟨rfl, hx⟩ | ⟨g, cap, cur, rfl, hg, hh, hnc, h63, hcap, hpre⟩
  · have e : xs = [] := List.eq_nil_of_length_eq_zero (by omega)
    subst e
    exact ⟨none, 0, rfl, by simp, Poly.nil _ _ _⟩
  · rw [hl] at hnc ⊢
    refine ⟨_, cap, rfl, hnc, ⟨fun _ => ⟨_, rfl, (Array.getElem?_eq_some_iff.1 hh).1, fun j hj => ?_⟩⟩⟩
    have hjl : j < l.length := by omega
    obtain ⟨f0, f1⟩ := recs_get l hjl (p := l.getD j rec0) (getD_self l j rec0)
    have c0 := h.own.cells (g := g) rfl (2 * j) _ f0
    have c1 := h.own.cells (g := g) rfl (2 * j + 1) _ f1
    obtain ⟨hs, ho, _⟩ := h.mag j hj
    obtain ⟨A, c, hv, hc, hlim, _⟩ := ho.form
    rw [add_plain] at c0 c1
    refine ⟨A, (xs.getD j (false, [])).2.length, c, ?_, ?_, rfl, hc, hlim⟩
    · rw [add_plain, Nat.mul_comm, c0, hs]
    · rw [add_plain, Nat.mul_comm]
      show w.cell? ⟨g, 2 * j + 1, none⟩ = _
      rw [c1, hv]
end
theorem info_rec : (Try.prog.info? 24).map (fun i => (i.zero, i.size, i.bytes)) = some (some (.agg #[.bool false, .slice none 0 0]), 2, 32) := by kernel_rfl
theorem made_recs (n : Nat) : (madeCells #[.bool false, .slice none 0 0] (n * 2)).toList = recs (List.replicate n rec0) := by
  induction n with
  | zero => simp [madeCells, recs]
  | succ n ih =>
    rw [List.replicate_succ', recs_append, ← ih]
    apply List.ext_getElem?
    intro j
    unfold madeCells
    by_cases h1 : j < n * 2
    · rw [List.getElem?_append_left (by simpa using h1)]
      simp [h1, show j < (n + 1) * 2 by omega]
    · rw [List.getElem?_append_right (by simpa using h1)]
      rcases Nat.lt_or_ge j ((n + 1) * 2) with h2 | h2
      · obtain h3 | h3 : j = n * 2 ∨ j = n * 2 + 1 := by omega
        · subst h3; simp [show n * 2 < (n + 1) * 2 by omega, recs, rec0]
        · subst h3; simp [show n * 2 + 1 < (n + 1) * 2 by omega, recs, rec0]
      · rw [List.getElem?_eq_none (by simp; omega), List.getElem?_eq_none (by simp [recs]; omega)]
/-- make([]api.Int, n) -/
theorem make_recs (n : Nat) (h : n ≤ 8192) : ∀ W : World, (Instr.makeSlice 45 (.int .i64 (n : Int)) (.int .i64 (n : Int))).run Try.prog W = .ok (.slice (some ⟨W.heap.size, 0, none⟩) n n) (W.alloc (.cells (madeCells #[.bool false, .slice none 0 0] (n * 2)) 24)) := by
  intro W
  obtain ⟨i0, hi, hz0, hz1, hz2⟩ := info_parts info_rec
  have hr := run_make (P := Try.prog) W 45 24 i0 (.agg #[.bool false, .slice none 0 0]) Try.underlying45 hi hz0 .i64 .i64 n n (by omega) (by omega) (by rw [hz2]; omega) (by omega)
  simp only [Int.toNat_natCast, hz1] at hr
  exact hr
theorem Recs.made (W : World) {base : Nat} (hb : base ≤ W.heap.size) (n : Nat) (h : n ≤ 8192) : Recs (W.alloc (.cells (madeCells #[.bool false, .slice none 0 0] (n * 2)) 24)) base (W.heap.size + 1) (.slice (some ⟨W.heap.size, 0, none⟩) n n) (List.replicate n rec0) [] := by
  refine ⟨⟨by rw [recs_length], .inr ⟨W.heap.size, n, _, by simp, hb, heap_alloc_new W _, by simp, by simp only [maxLen]; omega, by simp [size_madeCells], ?_⟩⟩, by simp, by omega, fun g hg => ?_, by simp, by simp⟩
  · rw [made_recs, List.length_replicate, List.take_of_length_le (by rw [recs_length]; simp)]
  · simp [Value.ownBlock] at hg; omega

/-- The value v is a new slice of records that hold xs. -/
def Told (w : World) (base : Nat) (v : Value) (xs : List Raw) : Prop := ∃ l top, Recs w base top v l xs ∧ l.length = xs.length ∧ top ≤ w.heap.size
theorem Told.nil (w : World) {base : Nat} (hb : base ≤ w.heap.size) : Told w base (.slice none 0 0) [] :=
  ⟨[], base, ⟨World.ownsRow_nil _ _ _ _, Nat.le_refl _, Nat.le_refl _, fun g hg => by simp [Value.ownBlock] at hg, by simp, by simp⟩, rfl, hb⟩
theorem Told.below {w w' : World} {base : Nat} {v : Value} {xs : List Raw} (h : Told w base v xs) (hb : Below w.heap.size w w') : Told w' base v xs := by
  obtain ⟨l, top, hr, hl, ht⟩ := h
  exact ⟨l, top, hr.below ⟨hb.os, hb.tape, hb.output, hb.size, fun i hi => hb.block i (by omega)⟩, hl, Nat.le_trans ht hb.size⟩
theorem Told.since {w : World} {base base' : Nat} {v : Value} {xs : List Raw} (h : Told w base v xs) (hb : base' ≤ base) : Told w base' v xs := by
  obtain ⟨l, top, hr, hl, ht⟩ := h
  refine ⟨l, top, ⟨?_, hr.len, Nat.le_trans hb hr.low, hr.lt, fun j hj => ⟨(hr.mag j hj).1, (hr.mag j hj).2.1.mono hb, (hr.mag j hj).2.2⟩, hr.apart⟩, hl, ht⟩
  refine ⟨hr.own.1, ?_⟩
  rcases hr.own.2 with hn | ⟨g, cap, cur, e, hg, rest⟩
  · exact .inl hn
  · exact .inr ⟨g, cap, cur, e, Nat.le_trans hb hg, rest⟩
theorem Told.poly {w : World} {base : Nat} {v : Value} {xs : List Raw} (h : Told w base v xs) : ∃ A c, v = .slice A xs.length c ∧ xs.length ≤ c ∧ Poly w w.heap.size A xs := by
  obtain ⟨l, top, hr, hl, _⟩ := h
  exact hr.poly hl
end Go.Proofs.Ytonbhpadoplpkaa
