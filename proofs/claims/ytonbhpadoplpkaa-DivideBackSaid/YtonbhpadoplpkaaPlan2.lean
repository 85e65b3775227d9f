import Derived.Test.YtonbhpadoplpkaaPlan
/- One walk for all orders of a region in which, at times, two calls may come in either order. -/
namespace Go.Proofs.Ytonbhpadoplpkaa
open Go
section
variable {P : Program} {md : Region.Mode} {ops : Array Oper} {C : World → Prop} {Q : Exit → Act → World → Prop}
/-- A plan that may fork: where two may come, both are shown. -/
inductive Tree (α : Type) where
  | done
  | read (x : α) (rest : Tree α)
  | loud (x : α) (rest : Tree α)
  | both (x : α) (r1 : Tree α) (y : α) (r2 : Tree α)
def Tree.map {α β : Type} (f : α → β) : Tree α → Tree β
  | .done => .done
  | .read x r => .read (f x) (r.map f)
  | .loud x r => .loud (f x) (r.map f)
  | .both x r1 y r2 => .both (f x) (r1.map f) (f y) (r2.map f)
def Tree.size {α : Type} : Tree α → Nat
  | .done => 0
  | .read _ r => r.size + 1
  | .loud _ r => r.size + 1
  | .both _ r1 _ _ => r1.size + 1
/-- Each way is as long. -/
def Tree.even {α : Type} : Tree α → Bool
  | .done => true
  | .read _ r => r.even
  | .loud _ r => r.even
  | .both _ r1 _ r2 => r1.even && r2.even && r1.size == r2.size
def treeB (md : Region.Mode) (ops : Array Oper) (k : Nat) : Tree Nat → Array Bool → Bool
  | .done, listed => chainB md ops (ops.size - k) k listed
  | .read i rest, listed => decide (i < k) && ((ops[i]?).map plainOp).getD false && (Region.ready md ops listed).contains i && Region.free md ops listed i && treeB md ops k rest (listed.setIfInBounds i true)
  | .loud i rest, listed => decide (i < k) && Region.ready md ops listed == [i] && treeB md ops k rest (listed.setIfInBounds i true)
  | .both i r1 j r2, listed => decide (i < k) && decide (j < k) && Region.ready md ops listed == [i, j] && treeB md ops k r1 (listed.setIfInBounds i true) && treeB md ops k r2 (listed.setIfInBounds j true)
def wpTree (P : Program) (ops : Array Oper) (C : World → Prop) (Q : Exit → Act → World → Prop) (tail : List Oper) : Tree Oper → Act → World → Prop
  | .done, a, w => wpList P ops Q tail a w
  | .read o rest, a, w => wpQuiet P ops C (fun a' => wpTree P ops C Q tail rest a' w) [o] a
  | .loud o rest, a, w => if Region.wanted o (yielded ops a.tmps) then o.wp P a w (fun a' w' => C w' ∧ wpTree P ops C Q tail rest a' w') noWay else wpTree P ops C Q tail rest (a.put o.dst undef) w
  | .both o1 r1 o2 r2, a, w => (if Region.wanted o1 (yielded ops a.tmps) then o1.wp P a w (fun a' w' => C w' ∧ wpTree P ops C Q tail r1 a' w') noWay else wpTree P ops C Q tail r1 (a.put o1.dst undef) w) ∧
      (if Region.wanted o2 (yielded ops a.tmps) then o2.wp P a w (fun a' w' => C w' ∧ wpTree P ops C Q tail r2 a' w') noWay else wpTree P ops C Q tail r2 (a.put o2.dst undef) w)
theorem wpTree_done {tail : List Oper} {a : Act} {w : World} (h : wpList P ops Q tail a w) : wpTree P ops C Q tail .done a w := h
theorem wpTree_read {tail : List Oper} {o : Oper} {rest : Tree Oper} {a : Act} {w : World} (h : wpQuiet P ops C (fun a' => wpTree P ops C Q tail rest a' w) [o] a) : wpTree P ops C Q tail (.read o rest) a w := h
theorem wpTree_loud {tail : List Oper} {o : Oper} {rest : Tree Oper} {a : Act} {w : World} (hw : Region.wanted o (yielded ops a.tmps) = true)
    (h : ∀ K : Act → World → Prop, (∀ a w, C w → wpTree P ops C Q tail rest a w → K a w) → o.wp P a w K noWay) : wpTree P ops C Q tail (.loud o rest) a w := by
  unfold wpTree
  rw [if_pos hw]
  exact h _ fun _ _ h1 h2 => ⟨h1, h2⟩
theorem wpTree_both {tail : List Oper} {o1 o2 : Oper} {r1 r2 : Tree Oper} {a : Act} {w : World} (hw1 : Region.wanted o1 (yielded ops a.tmps) = true) (hw2 : Region.wanted o2 (yielded ops a.tmps) = true)
    (h1 : ∀ K : Act → World → Prop, (∀ a w, C w → wpTree P ops C Q tail r1 a w → K a w) → o1.wp P a w K noWay)
    (h2 : ∀ K : Act → World → Prop, (∀ a w, C w → wpTree P ops C Q tail r2 a w → K a w) → o2.wp P a w K noWay) : wpTree P ops C Q tail (.both o1 r1 o2 r2) a w := by
  unfold wpTree
  rw [if_pos hw1, if_pos hw2]
  exact ⟨h1 _ fun _ _ h1 h2 => ⟨h1, h2⟩, h2 _ fun _ _ h1 h2 => ⟨h1, h2⟩⟩
theorem lOp_of {k : Nat} {fuel i : Nat} {o : Oper} {listed : Array Bool} {a : Act} {w : World} {W : Act → World → Prop} (ho : ops[i]? = some o) (hC : C w)
    (hK : ∀ a' w', C w' → W a' w' → wpAnyL P md ops C k Q fuel (listed.setIfInBounds i true) a' w')
    (h : if Region.wanted o (yielded ops a.tmps) then o.wp P a w (fun a' w' => C w' ∧ W a' w') noWay else W (a.put o.dst undef) w) :
    lOp P ops i (fun a' w' => C w' ∧ wpAnyL P md ops C k Q fuel (listed.setIfInBounds i true) a' w') a w := by
  unfold lOp
  simp only [ho]
  split
  · rename_i hw
    rw [if_pos hw] at h
    exact Oper.wp_mono (fun a' w' h1 => ⟨h1.1, hK a' w' h1.1 h1.2⟩) h
  · rename_i hw
    rw [if_neg hw] at h
    exact ⟨hC, hK _ _ hC h⟩
theorem wpAnyL_tree {k : Nat} (hs : Region.noSelect ops = true) (ht : tailB md ops k = true) (tail : List Oper) (htl : ∀ j, tail[j]? = ops[k + j]?) (hlen : tail.length = ops.size - k) :
    ∀ (p : Tree Nat) (L : Tree Oper) (listed : Array Bool) (a : Act) (w : World), closed md ops listed → C w → L.map some = p.map (fun i => ops[i]?) → p.even = true →
      treeB md ops k p listed = true → wpTree P ops C Q tail L a w → wpAnyL P md ops C k Q (p.size + tail.length) listed a w
  | .done, L, listed, a, w, hcl, hC, hp, he, hB, h => by
    cases L <;> simp only [Tree.map, reduceCtorEq] at hp
    simp only [treeB] at hB
    simp only [Tree.size, Nat.zero_add]
    rw [← hlen] at hB
    exact wpAnyL_tail tail k listed a w (Nat.le_refl _) htl hB h
  | .read i p, L, listed, a, w, hcl, hC, hp, he, hB, h => by
    cases L <;> simp only [Tree.map, reduceCtorEq, Tree.read.injEq] at hp
    rename_i o L
    obtain ⟨ho, hp⟩ := hp
    rw [show (Tree.read i p).size + tail.length = (p.size + tail.length) + 1 by simp only [Tree.size]; omega]
    simp only [treeB, Bool.and_eq_true, decide_eq_true_eq] at hB
    obtain ⟨⟨⟨⟨hik, hpl⟩, hr⟩, hf⟩, hB⟩ := hB
    rw [← ho] at hpl
    have hr' : i ∈ Region.ready md ops listed := by simpa using hr
    simp only [wpTree, wpQuiet] at h
    have key : ∃ v, ReadsTo P ops C o v a ∧ wpTree P ops C Q tail L (a.put o.dst v) w := by
      by_cases hw : Region.wanted o (yielded ops a.tmps) = true
      · rw [if_pos hw] at h
        obtain ⟨v, h1, h2⟩ := h
        exact ⟨v, readsTo_of_quiet hpl hw h1, h2⟩
      · rw [if_neg hw] at h
        exact ⟨undef, .inr ⟨by simpa using hw, rfl⟩, h⟩
    obtain ⟨v, hy, hK⟩ := key
    exact wpAnyL_first ho.symm hik (Region.noSelect_spec hs) ht (p.size + tail.length) listed a w hcl hC (Region.free_spec ho.symm hf) hr' hy
      (wpAnyL_tree hs ht tail htl hlen p L _ _ w (closed_set hcl hr') hC hp he hB hK)
  | .loud i p, L, listed, a, w, hcl, hC, hp, he, hB, h => by
    cases L <;> simp only [Tree.map, reduceCtorEq, Tree.loud.injEq] at hp
    rename_i o L
    obtain ⟨ho, hp⟩ := hp
    rw [show (Tree.loud i p).size + tail.length = (p.size + tail.length) + 1 by simp only [Tree.size]; omega]
    simp only [treeB, Bool.and_eq_true, decide_eq_true_eq, beq_iff_eq] at hB
    obtain ⟨⟨hik, hr⟩, hB⟩ := hB
    refine ⟨fun e => (by rw [hr] at e; cases e), fun j hj => ?_⟩
    have hj' := hj
    rw [hr] at hj
    obtain rfl := List.mem_singleton.1 hj
    rw [if_pos hik]
    exact lOp_of (W := wpTree P ops C Q tail L) ho.symm hC (fun a' w' hC' hW => wpAnyL_tree hs ht tail htl hlen p L _ a' w' (closed_set hcl hj') hC' hp he hB hW) (by simpa only [wpTree] using h)
  | .both i p1 j p2, L, listed, a, w, hcl, hC, hp, he, hB, h => by
    cases L <;> simp only [Tree.map, reduceCtorEq, Tree.both.injEq] at hp
    rename_i o1 L1 o2 L2
    obtain ⟨ho1, hp1, ho2, hp2⟩ := hp
    rw [show (Tree.both i p1 j p2).size + tail.length = (p1.size + tail.length) + 1 by simp only [Tree.size]; omega]
    simp only [treeB, Bool.and_eq_true, decide_eq_true_eq, beq_iff_eq] at hB
    obtain ⟨⟨⟨⟨hik, hjk⟩, hr⟩, hB1⟩, hB2⟩ := hB
    simp only [Tree.even, Bool.and_eq_true, beq_iff_eq] at he
    obtain ⟨⟨he1, he2⟩, hse⟩ := he
    simp only [wpTree] at h
    refine ⟨fun e => (by rw [hr] at e; cases e), fun q hq => ?_⟩
    have hq' := hq
    rw [hr] at hq
    rcases List.mem_cons.1 hq with rfl | hq
    · rw [if_pos hik]
      exact lOp_of (W := wpTree P ops C Q tail L1) ho1.symm hC (fun a' w' hC' hW => wpAnyL_tree hs ht tail htl hlen p1 L1 _ a' w' (closed_set hcl hq') hC' hp1 he1 hB1 hW) h.1
    · obtain rfl := List.mem_singleton.1 hq
      rw [if_pos hjk, hse]
      exact lOp_of (W := wpTree P ops C Q tail L2) ho2.symm hC (fun a' w' hC' hW => wpAnyL_tree hs ht tail htl hlen p2 L2 _ a' w' (closed_set hcl hq') hC' hp2 he2 hB2 hW) h.2
def forksB (ops : Array Oper) (p : Tree Nat) (k : Nat) : Bool :=
  Region.noSelect ops && tailB .any ops k && decide (p.size + (ops.size - k) = ops.size) && decide (k ≤ ops.size) && p.even && treeB .any ops k p (Array.replicate ops.size false)
/-- **ONE WALK FOR EVERY ORDER**, where two calls may change places. -/
theorem wp_region_forks {id : Nat} {l : List Oper} (C : World → Prop) (p : Tree Nat) (k : Nat) (st : Tree Oper) (tail : List Oper) {a : Act} {w : World} (hm : P.follows .mixedOrders = true)
    (hB : forksB l.toArray p k = true) (hp : st.map some = p.map (nthOp l)) (ht : l.drop k = tail)
    (hC : C (w.drewN 1)) (h : wpTree P l.toArray C Q tail st a (w.drewN 1)) : (Code.region id l.toArray true).wp P Q a w := by
  simp only [forksB, Bool.and_eq_true, decide_eq_true_eq] at hB
  obtain ⟨⟨⟨⟨⟨hs, htb⟩, hlen⟩, hk⟩, he⟩, hB⟩ := hB
  subst ht
  refine wp_region_any hm (wpAny_of_wpAnyL (C := C) (k := k) _ _ _ _ ?_)
  have h1 := wpAnyL_tree (C := C) (Q := Q) hs htb (l.drop k) (fun j => by simp) (by simp) p st (Array.replicate l.toArray.size false) a (w.drewN 1)
    (fun j o _ hl => by
      exfalso
      have e : (Array.replicate l.toArray.size false).getD j false = false := by
        rw [Array.getD_eq_getD_getElem?, Array.getElem?_replicate]; split <;> rfl
      rw [e] at hl
      cases hl) hC (by rw [hp]; congr 1; funext i; rw [nthOp_eq]; simp) he hB h
  rw [show p.size + (l.drop k).length = l.toArray.size by simp at hlen ⊢; omega] at h1
  exact h1
end
end Go.Proofs.Ytonbhpadoplpkaa
