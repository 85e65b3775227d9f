import Derived.Test.YtonbhpadoplpkaaRec
import Derived.Test.YtonbhpadoplpkaaKit
/- Records are appended; numbers are read. -/
namespace Go.Proofs.Ytonbhpadoplpkaa
open Go.RowKit Go.Deep
/-- At the slice's address A stand the numbers l (of type int), below block B. -/
structure Nums (w : World) (B : Nat) (A : Option Addr) (l : List Int) : Prop where
  cells : 0 < l.length → ∃ ad, A = some ad ∧ ad.block < B ∧ ∀ j, j < l.length → w.cell? (ad.add j) = some (.int .i64 (l.getD j 0))
theorem Nums.at_ {w : World} {B : Nat} {A : Option Addr} {l : List Int} (h : Nums w B A l) {k : Nat} (hk : k < l.length) : ∃ ad, A = some ad ∧ ad.block < B ∧ w.cell? (ad.add k) = some (.int .i64 (l.getD k 0)) := by
  obtain ⟨ad, e, hb, hc⟩ := h.cells (by omega)
  exact ⟨ad, e, hb, hc k hk⟩
theorem Nums.below {w w' : World} {B : Nat} {A : Option Addr} {l : List Int} (h : Nums w B A l) (hb : Below B w w') : Nums w' B A l :=
  ⟨fun hn => by
    obtain ⟨ad, e, hB, hc⟩ := h.cells hn
    exact ⟨ad, e, hB, fun j hj => by rw [hb.cell (by rw [block_of_add]; exact hB)]; exact hc j hj⟩⟩
theorem Nums.more {w : World} {B B' : Nat} {A : Option Addr} {l : List Int} (h : Nums w B A l) (hB : B ≤ B') : Nums w B' A l :=
  ⟨fun hn => by
    obtain ⟨ad, e, hb, hc⟩ := h.cells hn
    exact ⟨ad, e, by omega, hc⟩⟩
theorem Nums.nil (w : World) (B : Nat) (A : Option Addr) : Nums w B A [] := ⟨fun h => absurd h (by simp)⟩
theorem Recs.grow {W w1 : World} {base top : Nat} {v v1 : Value} {l : List (Bool × Value)} {xs : List Raw} {b : Bool} {u : Value} {ys : List Nat}
    (HR : Recs W base top v l xs) (hll : l.length = xs.length) (ho : Own W top u ys) (htop : top ≤ W.heap.size) (hg : W.grownBy w1 v.ownBlock) (hown : w1.ownsRow base 24 2 v1 (l.length + 1) (recs l ++ [.bool b, u])) :
    Recs w1 base w1.heap.size v1 (l ++ [(b, u)]) (xs ++ [(b, ys)]) := by
  have keep : ∀ {bs : Nat} {u' : Value} {zs : List Nat}, Own W bs u' zs → Own w1 bs u' zs := by
    intro bs u' zs h
    refine h.grown hg ?_
    rcases own_cases u' with hn | ⟨g, hn⟩
    · exact .inl hn
    · right
      rw [hn]
      intro e
      obtain ⟨cs, hc⟩ := h.type hn
      rcases HR.own.2 with ⟨rfl, _⟩ | ⟨g', cap, cur, rfl, _, hh, _⟩
      · simp [Value.ownBlock] at e
      · simp only [Value.ownBlock, Option.some.injEq] at e
        subst e
        rw [hc] at hh
        simp at hh
  have e0 : ∀ i, i < xs.length → (l ++ [(b, u)]).getD i rec0 = l.getD i rec0 := fun i hi => by simp [List.getElem?_append_left, show i < l.length by omega]
  have e1 : (l ++ [(b, u)]).getD xs.length rec0 = (b, u) := by rw [← hll]; simp
  refine ⟨?_, by simp; omega, ?_, fun g hg' => (hown.lt g hg').2, fun j hj => ?_, fun i j hij hj => ?_⟩
  · rw [List.length_append, recs_append]; simpa [recs] using hown
  · exact Nat.le_trans HR.low (Nat.le_trans htop hg.size)
  · by_cases hjx : j < xs.length
    · rw [e0 j hjx, show (xs ++ [(b, ys)]).getD j (false, []) = xs.getD j (false, []) by simp [List.getElem?_append_left, hjx]]
      obtain ⟨h1, h2, h3⟩ := HR.mag j hjx
      exact ⟨h1, keep h2, fun g hg' => (keep h2).lt hg'⟩
    · obtain rfl : j = xs.length := by simp at hj; omega
      rw [e1, show (xs ++ [(b, ys)]).getD xs.length (false, []) = (b, ys) by simp]
      exact ⟨rfl, (keep ho).mono HR.low, fun g hg' => (keep ho).lt hg'⟩
  · by_cases hjx : j < xs.length
    · rw [e0 i (by omega), e0 j hjx]; exact HR.apart i j hij hjx
    · obtain rfl : j = xs.length := by simp at hj; omega
      rw [e0 i hij, e1]
      intro g g' hg1 hg2
      have h1 := (HR.mag i hij).2.2 g hg1
      have h2 := (ho.own.lt g' hg2).1
      omega
section
variable {ops : Array Oper} {rest : List Oper} {o : Oper} {a : Act} {Q : Exit → Act → World → Prop}
/-- append(v, record): the goal's world is 'W.alloc' of the variadic's box. -/
theorem append_rec {w0 W : World} (base top : Nat) (hgd : o.guard = none) (s x : Operand)
    (ho : o.op = .call { callee := .builtin .append, args := #[s, x], argTypes := #[45, 45] })
    (v : Value) (l : List (Bool × Value)) (xs : List Raw) (b : Bool) (u : Value) (ys : List Nat) (hs : a.eval s = v) (hx : a.eval x = .slice (some ⟨W.heap.size, 0, none⟩) 1 1)
    (HR : Recs W base top v l xs) (hll : l.length = xs.length) (hu : Own W top u ys) (htop : top ≤ W.heap.size) (HB : Below base w0 W) (hlen : l.length ≤ 1000000)
    (h : ∀ v1 w1 l1, Recs w1 base w1.heap.size v1 l1 (xs ++ [(b, ys)]) → l1.length = (xs ++ [(b, ys)]).length → Below base w0 w1 → W.grownBy w1 v.ownBlock → wpList Try.prog ops Q rest (a.put o.dst v1) w1) :
    wpList Try.prog ops Q (o :: rest) a (W.alloc (.cells #[.bool b, u] 24)) := by
  obtain ⟨i0, hi, hz0, hz1, hz2⟩ := info_parts info_rec
  obtain ⟨Au, lu, cu, rfl⟩ := hu.slice
  have hbt : base ≤ W.heap.size := Nat.le_trans HR.low htop
  have hown' : (W.alloc (.cells #[.bool b, .slice Au lu cu] 24)).ownsRow base 24 2 v l.length (recs l) := HR.own.alloc _
  refine wpList_append_own_at _ hgd s x 45 ho base 24 i0 _ 2 32 Try.underlying45 hi hz0 hz1 hz2 rfl (by omega) v l.length (recs l) hs hown' ⟨W.heap.size, 0, none⟩ 1 1 [.bool b, .slice Au lu cu] hx (by simp)
    (fun j y hy => ?_) (fun y hy => ?_) (by simp only [maxLen]; omega) (by omega) (by simp; omega) ?_
  · rw [add_plain, cell_of_row _ _ _ _ _ (0, 0) (heap_alloc_new W _), ← hy]
    simp
  · rcases List.mem_cons.1 hy with rfl | hy
    · rfl
    · rw [List.mem_singleton.1 hy]; rfl
  · intro v1 w1 hown hg _ _
    have hg' : W.grownBy w1 v.ownBlock := grownBy_trans (grownBy_of_below ((Below.refl _ W).alloc (Nat.le_refl _) _) _) hg
    refine h v1 w1 _ (HR.grow hll hu htop hg' hown) (by simp [hll]) (HB.grown hg' hbt fun k hk => (HR.own.lt k hk).1) hg'
end
end Go.Proofs.Ytonbhpadoplpkaa
