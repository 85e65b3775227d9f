import Derived.Test.YtmnfokapdipcdaaRef7
import Derived.Test.YtmnfokapdipcdaaAwake
/- The package rosetteref24: rows of numbers; right, unit, begin. -/
namespace Go.Proofs.Ytmnfokapdipcdaa
open Go.RowKit Go.Deep
/-- Numbers as cells. -/
def trip (l : List (Bool × Value)) : List Value := l.flatMap fun p => [.bool p.1, p.2, .int .i64 0]
theorem trip_length (l : List (Bool × Value)) : (trip l).length = l.length * 3 := by
  induction l with
  | nil => rfl
  | cons p l ih => unfold trip at ih ⊢; simp [List.flatMap_cons, ih]; omega
theorem trip_append (l m : List (Bool × Value)) : trip (l ++ m) = trip l ++ trip m := by simp [trip]
theorem trip_get (l : List (Bool × Value)) {j : Nat} (hj : j < l.length) {p : Bool × Value} (hp : l.getD j p = p) : (trip l)[3 * j]? = some (.bool p.1) ∧ (trip l)[3 * j + 1]? = some p.2 ∧ (trip l)[3 * j + 2]? = some (.int .i64 0) := by
  induction l generalizing j with
  | nil => simp at hj
  | cons q l ih =>
    have e : trip (q :: l) = .bool q.1 :: q.2 :: .int .i64 0 :: trip l := by simp [trip]
    rw [e]
    cases j with
    | zero => simp at hp; subst hp; simp
    | succ j =>
      rw [show 3 * (j + 1) = 3 * j + 3 by omega]
      simp only [List.getElem?_cons_succ]
      exact ih (by simpa using hj) (by simpa using hp)
/-- The value v is nil or a row of one's own (from block base on) of the numbers zs. -/
def NRow (w : World) (base : Nat) (v : Value) (zs : List Int) : Prop :=
  ∃ l : List (Bool × Value), w.ownsRow base 79 3 v zs.length (trip l) ∧ l.length = zs.length ∧ ∀ j, j < zs.length → NumAt w (.agg #[.bool (l.getD j rec0).1, (l.getD j rec0).2, .int .i64 0]) (zs.getD j 0)
theorem NRow.nil (w : World) (base : Nat) : NRow w base (.slice none 0 0) [] := ⟨[], World.ownsRow_nil _ _ _ _, rfl, by simp⟩
theorem NRow.below {w w' : World} {base : Nat} {v : Value} {zs : List Int} (h : NRow w base v zs) (hb : Below w.heap.size w w') : NRow w' base v zs := by
  obtain ⟨l, ho, hl, ha⟩ := h
  exact ⟨l, ho.kept (grownBy_of_below hb none) (by cases v.ownBlock <;> simp), hl, fun j hj => (ha j hj).below hb⟩
theorem NRow.since {w : World} {base base' : Nat} {v : Value} {zs : List Int} (h : NRow w base v zs) (hb : base' ≤ base) : NRow w base' v zs := by
  obtain ⟨l, ho, hl, ha⟩ := h
  refine ⟨l, ⟨ho.1, ?_⟩, hl, ha⟩
  rcases ho.2 with hn | ⟨g, cap, cur, e, hg, rest⟩
  · exact .inl hn
  · exact .inr ⟨g, cap, cur, e, Nat.le_trans hb hg, rest⟩
/-- One of them. -/
theorem NRow.at_ {w : World} {base : Nat} {v : Value} {zs : List Int} (h : NRow w base v zs) {j : Nat} (hj : j < zs.length) : ∃ (g c : Nat) (b : Bool) (u : Value), v = .slice (some ⟨g, 0, none⟩) zs.length c ∧ zs.length ≤ c ∧
    w.cell? ⟨g, j * 3, none⟩ = some (.bool b) ∧ w.cell? ⟨g, j * 3 + 1, none⟩ = some u ∧ w.cell? ⟨g, j * 3 + 2, none⟩ = some (.int .i64 0) ∧ NumAt w (.agg #[.bool b, u, .int .i64 0]) (zs.getD j 0) := by
  obtain ⟨l, ho, hl, ha⟩ := h
  have hjl : j < l.length := by omega
  obtain ⟨f0, f1, f2⟩ := trip_get l hjl (p := l.getD j rec0) (getD_self l j rec0)
  have hown := ho
  rcases ho.2 with ⟨_, hx⟩ | ⟨g, cap, cur, rfl, hg, hh, hnc, h63, hcap, hpre⟩
  · omega
  · have c0 := hown.cells (g := g) rfl (3 * j) _ f0
    have c1 := hown.cells (g := g) rfl (3 * j + 1) _ f1
    have c2 := hown.cells (g := g) rfl (3 * j + 2) _ f2
    rw [add_plain, Nat.mul_comm] at c0 c1 c2
    exact ⟨g, cap, _, _, rfl, hnc, c0, c1, c2, ha j hj⟩
theorem NRow.form {w : World} {base : Nat} {v : Value} {zs : List Int} (h : NRow w base v zs) : ∃ A c, v = .slice A zs.length c ∧ zs.length ≤ c := by
  obtain ⟨l, ho, hl, ha⟩ := h
  rcases ho.2 with ⟨rfl, hx⟩ | ⟨g, cap, cur, rfl, hg, hh, hnc, h63, hcap, hpre⟩
  · exact ⟨none, 0, by rw [hx], by omega⟩
  · exact ⟨_, cap, rfl, hnc⟩
theorem info_num : (Try.prog.info? 79).map (fun i => (i.zero, i.size, i.bytes)) = some (some (.agg #[.bool false, .slice none 0 0, .int .i64 0]), 3, 40) := by kernel_rfl
/-- A number stays where a row of another kind grows. -/
theorem NumAt.grown {w w' : World} {v : Value} {z : Int} {row : Option Nat} (h : NumAt w v z) (hg : w.grownBy w' row) (hrow : ∀ g, row = some g → ∃ cs, w.heap[g]? = some (.cells cs 79 (0, 0))) : NumAt w' v z := by
  obtain ⟨b, A, l, c, e, hl, hc, hlim, hs, ho⟩ := h
  have ho' : Own w' 0 (.slice A l c) (limbs z.natAbs) := ho.grown hg (by
    rcases own_cases (.slice A l c) with hn | ⟨g, hn⟩
    · exact .inl hn
    · right
      rw [hn]
      intro er
      obtain ⟨cs, hcs⟩ := ho.type hn
      obtain ⟨cs2, hcs2⟩ := hrow g er.symm
      rw [hcs] at hcs2
      simp at hcs2)
  obtain ⟨A2, c2, e2, _, hlim2, _⟩ := ho'.form
  injection e2 with e21 e22 e23
  subst e21
  exact ⟨b, A, l, c, e, hl, hc, hlim2, hs, ho'⟩
section
variable {ops : Array Oper} {rest : List Oper} {o : Oper} {a : Act} {Q : Exit → Act → World → Prop}
/-- append(v, number): the goal's world is 'W.alloc' of the variadic's box. -/
theorem append_num {w0 W : World} (base : Nat) (hgd : o.guard = none) (s x : Operand)
    (ho : o.op = .call { callee := .builtin .append, args := #[s, x], argTypes := #[72, 72] })
    (v : Value) (zs : List Int) (b : Bool) (u : Value) (z : Int) (hs : a.eval s = v) (hx : a.eval x = .slice (some ⟨W.heap.size, 0, none⟩) 1 1)
    (HR : NRow W base v zs) (hu : NumAt W (.agg #[.bool b, u, .int .i64 0]) z) (HB : Below base w0 W) (hbase : base ≤ W.heap.size) (hlen : zs.length ≤ 1000000)
    (h : ∀ v1 w1, NRow w1 base v1 (zs ++ [z]) → Below base w0 w1 → wpList Try.prog ops Q rest (a.put o.dst v1) w1) :
    wpList Try.prog ops Q (o :: rest) a (W.alloc (.cells #[.bool b, u, .int .i64 0] 79)) := by
  obtain ⟨i0, hi, hz0, hz1, hz2⟩ := info_parts info_num
  obtain ⟨l, hown, hl, ha⟩ := HR
  have hu' := hu
  obtain ⟨b', A', l', c', e', _⟩ := hu'
  have eu : u = .slice A' l' c' := by
    have h1 := congrArg (fun v : Value => match v with | .agg cs => cs[1]? | _ => none) e'
    simpa using h1
  have hown' : (W.alloc (.cells #[.bool b, u, .int .i64 0] 79)).ownsRow base 79 3 v zs.length (trip l) := hown.alloc _
  refine wpList_append_own_at _ hgd s x 72 ho base 79 i0 _ 3 40 Try.underlying72 hi hz0 hz1 hz2 rfl (by omega) v zs.length (trip l) hs hown' ⟨W.heap.size, 0, none⟩ 1 1 [.bool b, u, .int .i64 0] hx (by simp)
    (fun j y hy => ?_) (fun y hy => ?_) (by simp only [maxLen]; omega) (by omega) (by simp; omega) ?_
  · rw [add_plain, cell_of_row _ _ _ _ _ (0, 0) (heap_alloc_new W _), ← hy]
    simp
  · rcases List.mem_cons.1 hy with rfl | hy
    · rfl
    · rcases List.mem_cons.1 hy with rfl | hy
      · rw [eu]; rfl
      · rw [List.mem_singleton.1 hy]; rfl
  · intro v1 w1 hown1 hg _ _
    have hg' : W.grownBy w1 v.ownBlock := grownBy_trans (grownBy_of_below ((Below.refl _ W).alloc (Nat.le_refl _) _) _) hg
    have hrow : ∀ g, v.ownBlock = some g → ∃ cs, W.heap[g]? = some (.cells cs 79 (0, 0)) := by
      intro g hgv
      rcases hown.2 with ⟨rfl, _⟩ | ⟨g', cap, cur, rfl, _, hh, _⟩
      · simp [Value.ownBlock] at hgv
      · simp only [Value.ownBlock, Option.some.injEq] at hgv
        subst hgv
        exact ⟨cur, hh⟩
    refine h v1 w1 ⟨l ++ [(b, u)], ?_, by simp [hl], fun j hj => ?_⟩ (HB.grown hg' hbase fun k hk => (hown.lt k hk).1)
    · rw [List.length_append, trip_append]; simpa [trip] using hown1
    · by_cases hjx : j < zs.length
      · rw [show (l ++ [(b, u)]).getD j rec0 = l.getD j rec0 by simp [List.getElem?_append_left, show j < l.length by omega], show (zs ++ [z]).getD j 0 = zs.getD j 0 by simp [List.getElem?_append_left, hjx]]
        exact (ha j hjx).grown hg' hrow
      · obtain rfl : j = zs.length := by simp at hj; omega
        rw [show (l ++ [(b, u)]).getD zs.length rec0 = (b, u) by rw [← hl]; simp, show (zs ++ [z]).getD zs.length 0 = z by simp]
        exact hu.grown hg' hrow
end
set_option maxRecDepth 100000 in
theorem ref_rightInt (b : Bool) (A : Option Addr) (l c : Nat) (xs : List Nat) (w : World) {B : Nat} (hB : B ≤ w.heap.size) (h1 : Lim w B A xs) (hl : l = xs.length) :
    Calls Try.prog 76 #[.agg #[.bool b, .slice A l c]] w fun e w' => e = .returned (.bool (rightInt (b, xs))) ∧ Below w.heap.size w w' := by
  subst hl
  have hwo : Below w.heap.size w (w.alloc (.cells #[.bool b, .slice A xs.length c] 36)) := (Below.refl _ w).alloc (Nat.le_refl _) _
  by_cases h0 : xs.length = 0
  · obtain rfl := List.eq_nil_of_length_eq_zero h0
    have HE := Lib.hid (show rightInt (b, []) = !b by simp [rightInt])
    rw [HE.out]
    cases b
    all_goals
      go_enter Try.func76, Try.ntmps76
      go_wp2_with fail
      go_ret
      exact ⟨rfl, hwo⟩
  · have t0 : ((xs.length : Int) == 0) = false := beq_eq_false_iff_ne.2 (by omega)
    have hp : xs.length - 1 < xs.length := by omega
    by_cases h4 : xs.length ≤ 4096
    · have tI : (xs.length : Int) ≤ 4096 := by omega
      obtain ⟨ad, rfl, hb, hcell⟩ := (h1.below (hwo.mono hB)).at_ hp
      obtain ⟨x, hx⟩ : ∃ x, xs.getD (xs.length - 1) 0 = x := ⟨_, rfl⟩
      rw [hx] at hcell
      have HE := Lib.hid (show rightInt (b, xs) = (x != 0) by
        have e0 : (xs.length == 0) = false := beq_eq_false_iff_ne.2 h0
        unfold rightInt
        simp only [e0, bne, hx, decide_eq_true h4, Bool.false_and, Bool.false_or, Bool.not_false, Bool.true_and])
      rw [HE.out]
      obtain ⟨m, hm⟩ : ∃ m, xs.length - 1 = m := ⟨_, rfl⟩
      have e1 : ((xs.length : Int) - 1) = (m : Int) := by omega
      have hml : (m : Int) < (xs.length : Int) := by omega
      rw [hm] at hcell
      clear h0 hp h4 hx hm
      go_enter Try.func76, Try.ntmps76
      go_wp2_with fail
      go_ret
      exact ⟨by rw [← int_bne]; rfl, hwo⟩
    · have tI : (4096 : Int) < (xs.length : Int) := by omega
      have HE := Lib.hid (show rightInt (b, xs) = false by simp [rightInt, h4]; intro h; exact absurd (by rw [h]; rfl) h0)
      rw [HE.out]
      clear h0 hp h4
      go_enter Try.func76, Try.ntmps76
      go_wp2_with fail
      go_ret
      exact ⟨rfl, hwo⟩
end Go.Proofs.Ytmnfokapdipcdaa
