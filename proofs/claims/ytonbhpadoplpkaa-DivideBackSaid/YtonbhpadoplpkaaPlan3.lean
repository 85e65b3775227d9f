import Derived.Test.YtonbhpadoplpkaaPlan2
/- A region that draws its order, by an invariant: where several operations may come up at once. -/
namespace Go.Proofs.Ytonbhpadoplpkaa
open Go
section
variable {P : Program} {md : Region.Mode} {ops : Array Oper} {Q : Exit → Act → World → Prop}
def upd (L : Nat → Bool) (i : Nat) : Nat → Bool := fun j => if j = i then true else L j
theorem upd_self (L : Nat → Bool) (i : Nat) : upd L i i = true := by unfold upd; rw [if_pos rfl]
theorem upd_ne {L : Nat → Bool} {i j : Nat} (h : j ≠ i) : upd L i j = L j := by unfold upd; rw [if_neg h]
def unl (listed : Array Bool) : Nat → Nat
  | 0 => 0
  | k + 1 => unl listed k + (if listed.getD k false then 0 else 1)
theorem unl_zero {listed : Array Bool} : ∀ {k : Nat}, unl listed k = 0 → ∀ i, i < k → listed.getD i false = true
  | 0, _, _, hi => by omega
  | k + 1, h, i, hi => by
    simp only [unl] at h
    by_cases e : i = k
    · subst e
      cases hl : listed.getD i false with
      | true => rfl
      | false => rw [hl] at h; simp at h
    · exact unl_zero (k := k) (by omega) i (by omega)
theorem unl_pos {listed : Array Bool} : ∀ {k : Nat}, unl listed k ≠ 0 → ∃ i, i < k ∧ listed.getD i false = false ∧ ∀ j, j < i → listed.getD j false = true
  | 0, h => absurd rfl h
  | k + 1, h => by
    by_cases h1 : unl listed k = 0
    · refine ⟨k, by omega, ?_, unl_zero h1⟩
      cases hl : listed.getD k false with
      | false => rfl
      | true => simp only [unl, h1, hl] at h; simp at h
    · obtain ⟨i, hi, h2, h3⟩ := unl_pos h1
      exact ⟨i, by omega, h2, h3⟩
theorem getD_set_bool (listed : Array Bool) (i j : Nat) (hi : i < listed.size) : (listed.setIfInBounds i true).getD j false = if j = i then true else listed.getD j false := by
  simp only [Array.getD_eq_getD_getElem?, Array.getElem?_setIfInBounds]
  by_cases e : i = j
  · subst e; simp [hi]
  · rw [if_neg e, if_neg (Ne.symm e)]
theorem unl_far {listed : Array Bool} {i : Nat} (hs : i < listed.size) : ∀ {k : Nat}, k ≤ i → unl (listed.setIfInBounds i true) k = unl listed k
  | 0, _ => rfl
  | k + 1, h => by
    simp only [unl]
    rw [unl_far hs (k := k) (by omega), getD_set_bool listed i k hs, if_neg (show ¬ k = i by omega)]
theorem unl_set {listed : Array Bool} {i : Nat} (hs : i < listed.size) (hl : listed.getD i false = false) : ∀ {k : Nat}, i < k → unl (listed.setIfInBounds i true) k + 1 = unl listed k
  | 0, h => by omega
  | k + 1, h => by
    simp only [unl]
    by_cases e : i = k
    · subst e
      rw [unl_far hs (Nat.le_refl _), getD_set_bool listed i i hs, if_pos rfl, hl]
      simp
    · rw [getD_set_bool listed i k hs, if_neg (Ne.symm e)]
      have := unl_set hs hl (k := k) (by omega)
      omega
/-- Operation i waits for earlier ones alone. -/
def earlyB (md : Region.Mode) (ops : Array Oper) (k : Nat) : Bool :=
  (List.range k).all fun i => (waits md ops i).all fun j => decide (j < i)
def lead (n k : Nat) : Array Bool := (List.replicate k true ++ List.replicate (n - k) false).toArray
theorem eq_lead {listed : Array Bool} {n k : Nat} (hn : listed.size = n) (hk : k ≤ n) (h1 : ∀ i, i < k → listed.getD i false = true) (h2 : ∀ i, k ≤ i → listed.getD i false = false) : listed = lead n k := by
  apply Array.ext
  · simp [lead, hn]; omega
  · intro i hi hi2
    have e : listed.getD i false = listed[i] := by simp [Array.getD, hi]
    rw [← e]
    simp only [lead, List.getElem_toArray, List.getElem_append, List.length_replicate]
    by_cases h : i < k
    · rw [h1 i h]; simp [h]
    · rw [h2 i (by omega)]; simp [h]
theorem wpAny_inv {J : (Nat → Bool) → Act → World → Prop} {k : Nat} (tail : List Oper) (htl : ∀ j, tail[j]? = ops[k + j]?) (hlen : tail.length = ops.size - k) (hk : k ≤ ops.size)
    (ht : tailB md ops k = true) (he : earlyB md ops k = true) (hc : chainB md ops (ops.size - k) k (lead ops.size k) = true)
    (hstep : ∀ i o L a w, i < k → ops[i]? = some o → L i = false → (∀ j, j ∈ waits md ops i → L j = true) → J L a w → lOp P ops i (fun a' w' => J (upd L i) a' w') a w)
    (htail : ∀ L a w, (∀ i, i < k → L i = true) → J L a w → wpList P ops Q tail a w) :
    ∀ (m : Nat) (listed : Array Bool) (a : Act) (w : World), unl listed k = m → closed md ops listed → listed.size = ops.size → (∀ i, k ≤ i → listed.getD i false = false) → J (fun j => listed.getD j false) a w → wpAny P md ops Q (m + (ops.size - k)) listed a w := by
  intro m
  induction m with
  | zero =>
    intro listed a w hm hcl hsz hhi hJ
    have hall := unl_zero hm
    have e := eq_lead hsz hk hall hhi
    subst e
    have hL := htail _ a w hall hJ
    rw [Nat.zero_add, ← hlen]
    refine wpAny_of_wpAnyL (C := fun _ => True) (k := k) _ _ _ _ (wpAnyL_tail tail k _ a w (Nat.le_refl _) htl ?_ hL)
    rw [hlen]; exact hc
  | succ m ih =>
    intro listed a w hm hcl hsz hhi hJ
    rw [show m + 1 + (ops.size - k) = (m + (ops.size - k)) + 1 by omega]
    obtain ⟨i0, hi0, hu0, hb0⟩ := unl_pos (k := k) (listed := listed) (by omega)
    have hr0 : i0 ∈ Region.ready md ops listed := by
      have hlt : i0 < ops.size := by omega
      refine mem_ready.2 ⟨?_, ops[i0], Array.getElem?_eq_getElem hlt, fun e hemem hbind => ?_⟩
      · simp only [Array.getD_eq_getD_getElem?, Array.getElem?_eq_getElem (show i0 < listed.size by omega)] at hu0
        simp only [Option.getD_some] at hu0
        first
        | simpa [Array.getElem?_eq_getElem (show i0 < listed.size by omega)] using hu0
        | simp [Array.getD_eq_getD_getElem?, Array.getElem?_eq_getElem (show i0 < listed.size by omega), hu0]
      · refine hb0 _ ?_
        unfold earlyB at he
        rw [List.all_eq_true] at he
        have h1 := he i0 (by rw [List.mem_range]; exact hi0)
        rw [List.all_eq_true] at h1
        have h2 := h1 e.on (by
          unfold waits
          rw [Array.getElem?_eq_getElem hlt]
          exact List.mem_map.2 ⟨e, List.mem_filter.2 ⟨by simpa using hemem, hbind⟩, rfl⟩)
        exact of_decide_eq_true h2
    refine ⟨fun h => (by rw [h] at hr0; cases hr0), fun i hi => ?_⟩
    have hik : i < k := by
      rcases Nat.lt_or_ge i k with h | h
      · exact h
      · have := tail_waits ht hcl hi (by omega) hi0
        rw [this] at hu0; cases hu0
    obtain ⟨hun, o, ho, hall⟩ := mem_ready.1 hi
    have hsi : i < listed.size := by rw [hsz]; exact (Array.getElem?_eq_some_iff.1 ho).1
    have hui : listed.getD i false = false := by
      cases hx : listed.getD i false with
      | false => rfl
      | true => exfalso; simp_all [Array.getD_eq_getD_getElem?]
    refine wpOp_of_lOp (lOp_mono (fun a' w' h => ?_) (hstep i o _ a w hik ho hui (fun j hj => ?_) hJ))
    · refine ih _ a' w' (by have := unl_set hsi hui hik; omega) (closed_set hcl hi) (by simpa using hsz) (fun j hj => ?_) ?_
      · rw [getD_set_bool _ _ _ hsi, if_neg (by omega)]; exact hhi j hj
      · have e : (fun j => (listed.setIfInBounds i true).getD j false) = upd (fun j => listed.getD j false) i := by
          funext j; rw [getD_set_bool _ _ _ hsi]; rfl
        rw [e]; exact h
    · unfold waits at hj
      rw [ho] at hj
      obtain ⟨e, hemem, rfl⟩ := List.mem_map.1 hj
      obtain ⟨h1, h2⟩ := List.mem_filter.1 hemem
      exact hall e (by simpa using h1) h2
def invB (ops : Array Oper) (k : Nat) : Bool :=
  tailB .any ops k && earlyB .any ops k && chainB .any ops (ops.size - k) k (lead ops.size k) && decide (k ≤ ops.size)
/-- **BY AN INVARIANT**: J speaks of what is listed. -/
theorem wp_region_inv {id : Nat} {l : List Oper} (J0 : Act → (Nat → Bool) → Act → World → Prop) (k : Nat) (tail : List Oper) {a : Act} {w : World} (hm : P.follows .mixedOrders = true)
    (hB : invB l.toArray k = true) (ht : l.drop k = tail) (h0 : J0 a (fun _ => false) a (w.drewN 1))
    (hstep : ∀ i o L a1 w, i < k → nthOp l i = some o → L i = false → (∀ j, (waits .any l.toArray i).contains j = true → L j = true) → J0 a L a1 w → ∀ K : Act → World → Prop, (∀ a' w', J0 a (upd L i) a' w' → K a' w') → Region.wanted o (yielded l.toArray a1.tmps) = true ∧ o.wp P a1 w K noWay)
    (htail : ∀ L a1 w, (∀ i, i < k → L i = true) → J0 a L a1 w → wpList P l.toArray Q tail a1 w) : (Code.region id l.toArray true).wp P Q a w := by
  simp only [invB, Bool.and_eq_true, decide_eq_true_eq] at hB
  obtain ⟨⟨⟨htb, he⟩, hc⟩, hk⟩ := hB
  subst ht
  have hz : ∀ i, (Array.replicate l.toArray.size false).getD i false = false := fun i => by
    rw [Array.getD_eq_getD_getElem?, Array.getElem?_replicate]; split <;> rfl
  have hall : ∀ k, unl (Array.replicate l.toArray.size false) k = k := by
    intro k
    induction k with
    | zero => rfl
    | succ k ih => simp only [unl, ih, hz]; simp
  refine wp_region_any hm ?_
  have h1 := wpAny_inv (P := P) (Q := Q) (J := J0 a) (l.drop k) (fun j => by simp) (by simp) hk htb he hc (fun i o L a w hik ho hL hw hJ => ?_) htail k (Array.replicate l.toArray.size false) a (w.drewN 1) (hall k)
    (fun j o _ hl => by rw [hz] at hl; cases hl) (by simp) (fun i _ => hz i) (by
      have e : (fun j => (Array.replicate l.toArray.size false).getD j false) = fun _ => false := funext hz
      rw [e]; exact h0)
  · rw [show k + (l.toArray.size - k) = l.toArray.size by omega] at h1
    exact h1
  · have hs := hstep i o L a w hik (by rw [nthOp_eq]; simpa using ho) hL (fun j hj => hw j (by simpa using hj)) hJ _ (fun a' w' h => h)
    unfold lOp
    simp only [ho]
    rw [if_pos hs.1]
    exact hs.2
end
end Go.Proofs.Ytonbhpadoplpkaa
