import Derived.BigQuiet
import Derived.Orders
/-
A region that draws its order and holds calls that lay memory or write it: ONE walk serves every order, where
* its reads come to the same in each world of a class C, and every call leaves a world of C;
* the calls wait for one another;
* the last operations (the tail) wait for all the others: of them no class is asked.
The walk: stages of reads (wpQuiet), single loud operations, then the tail (wpList).
-/
namespace Go.Proofs.Ytonbhpadoplpkaa
open Go
section
variable {P : Program} {ops : Array Oper} {md : Region.Mode} {C : World → Prop} {Q : Exit → Act → World → Prop}

/-! ### operations that read -/
/-- No call of a function, nothing deferred, sent or let go. -/
def plainOp (o : Oper) : Bool :=
  match o.op with
  | .call c => match c.callee with
    | .builtin .len => true
    | .builtin .cap => true
    | .builtin .min => true
    | .builtin .max => true
    | _ => false
  | .move _ | .assign _ | .pick .. | .load .. | .nilCheck _ | .binOp .. | .unOp .. | .convert .. | .fieldAddr .. | .field .. | .indexAddr .. | .index .. | .slice .. | .extract .. | .build .. => true
  | _ => false

theorem run_value (s : Sem Value) (w : World) : (∃ v w', (do pure (Next.value (← s)) : Sem Next).run P w = .ok (.value v) w') ∨ (∃ x w', (do pure (Next.value (← s)) : Sem Next).run P w = .halt x w') := by
  rw [Sem.run_bind]
  cases h : s.run P w with
  | ok v w' => exact .inl ⟨v, w', by simp [Result.andThen, Sem.run_pure]⟩
  | halt x w' => exact .inr ⟨x, w', by simp [Result.andThen]⟩

theorem run_panic (w : World) : ∃ x w', (runtimePanic .nilDeref : Sem Next).run P w = .halt x w' := ⟨_, _, rfl⟩

theorem plain_no_enter {o : Oper} (h : plainOp o = true) (a : Act) (w : World) (f : FuncId) (args : Array Value) (w' : World) : (execOp a.eval o).run P w ≠ .ok (.enter f args) w' := by
  have key : ∀ s : Sem Value, (do pure (Next.value (← s)) : Sem Next).run P w ≠ .ok (.enter f args) w' := by
    intro s
    rcases run_value (P := P) s w with ⟨v, w1, e⟩ | ⟨x, w1, e⟩ <;> rw [e] <;> simp
  unfold plainOp at h
  obtain ⟨dst, op, ty, pos, after, guard⟩ := o
  cases op <;> simp only at h <;> first | cases h | skip
  all_goals first
    | exact key _
    | (unfold execOp; simp [Sem.run_pure]; done)
    | skip
  case pick c x y =>
    unfold execOp
    simp only [Sem.run_bind]
    cases (asBool (a.eval c)).run P w with
    | ok b w1 => simp [Result.andThen, Sem.run_pure]
    | halt x w1 => simp [Result.andThen]
  case nilCheck x =>
    unfold execOp
    simp only
    have kp : (runtimePanic .nilDeref : Sem Next).run P w ≠ .ok (.enter f args) w' := by
      obtain ⟨x, w1, h⟩ := run_panic (P := P) w
      rw [h]; simp
    split
    · exact kp
    · exact kp
    · exact kp
    · split
      · exact kp
      · simp only [Sem.run_bind]
        rename_i t u _
        cases (program).run P w with
        | halt x w1 => simp [Result.andThen]
        | ok pr w1 =>
          simp only [Result.andThen]
          cases (nilAhead (pr.types.size + Made.depth) t u _).run P w1 with
          | halt x w2 => simp
          | ok b w2 =>
            simp only
            split
            · simp [unsupported, Sem.run, Result.andThen]
            · simp [Sem.run_pure]
      · simp [Sem.run_pure]
    · simp [Sem.run_pure]
  case call c =>
    obtain ⟨callee, xs, ats⟩ := c
    cases callee with
    | builtin b =>
      cases b <;> simp only at h <;> first | cases h | skip
      all_goals exact key _
    | _ => cases h

/-! ### the reads, at a class of worlds -/
/-- In every world of the class the operation reads v, and no more. -/
def ReadsTo (P : Program) (ops : Array Oper) (C : World → Prop) (o : Oper) (v : Value) (a : Act) : Prop :=
  (Region.wanted o (yielded ops a.tmps) = true ∧ ∀ w, C w → (execOp a.eval o).run P w = .ok (.value v) w ∨ ((execOp a.eval o).run P w = .ok .skip w ∧ v = undef)) ∨
  (Region.wanted o (yielded ops a.tmps) = false ∧ v = undef)

theorem ReadsTo.of_same {o : Oper} {v : Value} {a a' : Act} (hy : ReadsTo P ops C o v a) (he : execOp a'.eval o = execOp a.eval o)
    (hw : Region.wanted o (yielded ops a'.tmps) = Region.wanted o (yielded ops a.tmps)) : ReadsTo P ops C o v a' := by
  unfold ReadsTo at *
  rw [he, hw]
  exact hy

theorem readsTo_of_quiet {o : Oper} (hp : plainOp o = true) {a : Act} {v : Value} (hw : Region.wanted o (yielded ops a.tmps) = true) (h : ∀ w, C w → o.quietAt P a C w v) : ReadsTo P ops C o v a := by
  refine .inl ⟨hw, fun w hC => ?_⟩
  have h1 := h w hC
  have h2 := plain_no_enter (P := P) hp a w
  unfold Oper.quietAt at h1
  generalize (execOp a.eval o).run P w = r at *
  cases r with
  | halt x w' => exact h1.elim
  | ok n w' =>
    cases n <;> simp only [Oper.quietUpon] at h1
    case value u => obtain ⟨rfl, rfl⟩ := h1; exact .inl rfl
    case skip => obtain ⟨rfl, rfl⟩ := h1; exact .inr ⟨rfl, rfl⟩
    case enter f args => exact absurd rfl (h2 f args w')

/-! ### one operation of the walk, nothing let out of it -/
def noWay : Exit → Act → World → Prop := fun _ _ _ => False
def lOp (P : Program) (ops : Array Oper) (i : Nat) (K : Act → World → Prop) (a : Act) (w : World) : Prop :=
  match ops[i]? with
  | none => False
  | some o => if Region.wanted o (yielded ops a.tmps) then o.wp P a w K noWay else K (a.put o.dst undef) w

theorem lOp_mono {i : Nat} {a : Act} {w : World} {K K' : Act → World → Prop} (h : ∀ a w, K a w → K' a w) (hh : lOp P ops i K a w) : lOp P ops i K' a w := by
  unfold lOp at *
  split
  · rename_i ho; simp only [ho] at hh
  · rename_i o ho
    simp only [ho] at hh
    split
    · rename_i hw; simp only [hw, if_true] at hh; exact Oper.wp_mono h hh
    · rename_i hw; simp only [hw] at hh; exact h _ _ hh

theorem ReadsTo.lOp {i : Nat} {o : Oper} {v : Value} {a : Act} (hi : ops[i]? = some o) (hy : ReadsTo P ops C o v a) {K : Act → World → Prop} {w : World} (hC : C w) (h : K (a.put o.dst v) w) : lOp P ops i K a w := by
  unfold Go.Proofs.Ytonbhpadoplpkaa.lOp
  simp only [hi]
  rcases hy with ⟨hw, hv⟩ | ⟨hw, rfl⟩
  · simp only [hw, if_true, Oper.wp]
    rcases hv w hC with e | ⟨e, rfl⟩ <;> rw [e] <;> exact h
  · simp only [hw, Bool.false_eq_true, if_false]; exact h

/-- One operation 'oj', apart from the reading 'oi'. -/
theorem lOp_put {j : Nat} {oi oj : Oper} {v : Value} (hj : ops[j]? = some oj) (hap : oi.apart ops oj = true)
    (hsi : ∀ cs b, oi.op ≠ .select cs b) (hsj : ∀ cs b, oj.op ≠ .select cs b) {K : Act → World → Prop} {a : Act} {w : World}
    (hy : ReadsTo P ops C oi v a) (h : lOp P ops j K (a.put oi.dst v) w) :
    lOp P ops j (fun a' w' => ReadsTo P ops C oi v a' ∧ K (a'.put oi.dst v) w') a w := by
  obtain ⟨h1, h2, h3⟩ := Oper.apart_spec hap
  have keep : ∀ (a : Act), ReadsTo P ops C oi v a → ∀ u, ReadsTo P ops C oi v (a.put oj.dst u) := fun a hy u =>
    hy.of_same (execOp_put oi hsi a oj.dst u h3) (wanted_put oi a oj.dst u h3)
  have keepD : ∀ d, ReadsTo P ops C oi v { a with defers := d :: a.defers } := fun d => hy.of_same rfl rfl
  unfold lOp at *
  simp only [hj] at *
  rw [wanted_put oj a oi.dst v h1] at h
  split
  · rename_i hw
    simp only [hw, if_true] at h
    unfold Oper.wp at *
    rw [execOp_put oj hsj a oi.dst v h1] at h
    generalize (execOp a.eval oj).run P w = r at *
    cases r with
    | ok n w' =>
      cases n <;> simp only [Oper.upon] at h ⊢
      case value u => exact ⟨keep a hy u, by rw [← Act.put_comm a v u h2]; exact h⟩
      case skip => exact ⟨keep a hy _, by rw [← Act.put_comm a v undef h2]; exact h⟩
      case defer d =>
        refine ⟨keep _ (keepD d) _, ?_⟩
        rw [← Act.put_comm _ v undef h2, ← Act.put_defers]
        exact h
      case enter f args =>
        refine Calls.mono h fun e w'' he => ?_
        cases e with
        | returned u => exact ⟨keep a hy u, by rw [← Act.put_comm a v u h2]; exact he⟩
        | panicked c => exact he
        | outgrown => exact he
      case row row args => exact Rows.mono h fun u w'' he => ⟨keep a hy u, by rw [← Act.put_comm a v u h2]; exact he⟩
    | halt x w' =>
      cases x <;> simp only [Oper.upon] at h ⊢
      case panic u => exact h
  · rename_i hw
    simp only [hw] at h
    exact ⟨keep a hy _, by rw [← Act.put_comm a v undef h2]; exact h⟩

theorem wpOp_of_lOp {i : Nat} {a : Act} {w : World} {K : Act → World → Prop} (h : lOp P ops i K a w) : wpOp P ops Q i K a w := by
  unfold lOp at h
  unfold wpOp
  split
  · rename_i ho; simp only [ho] at h
  · rename_i o ho
    simp only [ho] at h
    split
    · rename_i hw
      simp only [hw, if_true] at h
      refine .inl ?_
      unfold Oper.wp at *
      generalize (execOp a.eval o).run P w = r at *
      cases r with
      | ok n w' =>
        cases n <;> simp only [Oper.upon] at h ⊢ <;>
          first
            | exact h
            | exact Calls.mono h (fun e w'' he => by cases e <;> first | exact he | exact he.elim | exact he.elim (fun _ ⟨_, h⟩ => h.elim))
      | halt x w' => cases x <;> simp only [Oper.upon, noWay] at h ⊢
    · rename_i hw; simp only [hw] at h; exact h

/-! ### whatever order is picked -/
/-- Of the operations below number k a world of the class is asked, and no way out. -/
def wpAnyL (P : Program) (md : Region.Mode) (ops : Array Oper) (C : World → Prop) (k : Nat) (Q : Exit → Act → World → Prop) : Nat → Array Bool → Act → World → Prop
  | 0, listed, a, w => Region.ready md ops listed = [] ∧ Q .normal a w
  | fuel + 1, listed, a, w =>
    (Region.ready md ops listed = [] → Q .normal a w) ∧
    ∀ i ∈ Region.ready md ops listed,
      if i < k then lOp P ops i (fun a' w' => C w' ∧ wpAnyL P md ops C k Q fuel (listed.setIfInBounds i true) a' w') a w
      else wpOp P ops Q i (wpAnyL P md ops C k Q fuel (listed.setIfInBounds i true)) a w

theorem wpAny_of_wpAnyL {k : Nat} : ∀ (fuel : Nat) (listed : Array Bool) (a : Act) (w : World), wpAnyL P md ops C k Q fuel listed a w → wpAny P md ops Q fuel listed a w
  | 0, _, _, _, h => h
  | fuel + 1, listed, a, w, h => ⟨h.1, fun i hi => by
    have h1 := h.2 i hi
    split at h1
    · exact wpOp_of_lOp (lOp_mono (fun a' w' h2 => wpAny_of_wpAnyL fuel _ a' w' h2.2) h1)
    · exact wpOp_mono (fun a' w' h2 => wpAny_of_wpAnyL fuel _ a' w' h2) h1⟩

/-- What is listed has all that it waits for listed. -/
def closed (md : Region.Mode) (ops : Array Oper) (listed : Array Bool) : Prop :=
  ∀ j o, ops[j]? = some o → listed.getD j false = true → ∀ e ∈ o.after, Region.binds md e = true → listed.getD e.on false = true

theorem closed_set {listed : Array Bool} {j : Nat} (h : closed md ops listed) (hj : j ∈ Region.ready md ops listed) : closed md ops (listed.setIfInBounds j true) := by
  intro i o hi hl e he hb
  by_cases hij : i = j
  · subst hij
    obtain ⟨_, o', ho', hall⟩ := mem_ready.1 hj
    rw [hi] at ho'
    cases ho'
    exact getD_set_true (hall e he hb)
  · rw [getD_set_ne false (Ne.symm hij)] at hl
    exact getD_set_true (h i o hi hl e he hb)

/-- What these wait for, and they. -/
def ups (md : Region.Mode) (ops : Array Oper) (l : List Nat) : List Nat :=
  l ++ l.flatMap fun j => match ops[j]? with
    | some o => (o.after.toList.filter fun e => Region.binds md e).map (·.on)
    | none => []
def upsN (md : Region.Mode) (ops : Array Oper) : Nat → List Nat → List Nat
  | 0, l => l
  | n + 1, l => upsN md ops n ((ups md ops l).eraseDups)
/-- What an operation waits for. -/
def waits (md : Region.Mode) (ops : Array Oper) (j : Nat) : List Nat :=
  match ops[j]? with
  | some o => (o.after.toList.filter fun e => Region.binds md e).map (·.on)
  | none => []

theorem ups_listed {listed : Array Bool} (hc : closed md ops listed) {l : List Nat} (h : ∀ i ∈ l, listed.getD i false = true) : ∀ i ∈ ups md ops l, listed.getD i false = true := by
  intro i hi
  unfold ups at hi
  rcases List.mem_append.1 hi with hi | hi
  · exact h i hi
  · obtain ⟨j, hj, hi⟩ := List.mem_flatMap.1 hi
    cases ho : ops[j]? with
    | none => rw [ho] at hi; cases hi
    | some o =>
      rw [ho] at hi
      obtain ⟨e, he, rfl⟩ := List.mem_map.1 hi
      obtain ⟨he, hb⟩ := List.mem_filter.1 he
      exact hc j o ho (h j hj) e (by simpa using he) hb
theorem upsN_listed {listed : Array Bool} (hc : closed md ops listed) : ∀ (n : Nat) (l : List Nat), (∀ i ∈ l, listed.getD i false = true) → ∀ i ∈ upsN md ops n l, listed.getD i false = true
  | 0, _, h => h
  | n + 1, _, h => upsN_listed hc n _ (fun i hi => ups_listed hc h i (List.mem_eraseDups.1 hi))

/-- Every operation from number k on waits, by others, for all those below k. -/
def tailB (md : Region.Mode) (ops : Array Oper) (k : Nat) : Bool :=
  (List.range ops.size).all fun j => decide (j < k) || (List.range k).all fun i => (upsN md ops ops.size (waits md ops j)).contains i

theorem tail_waits {k : Nat} (h : tailB md ops k = true) {listed : Array Bool} (hc : closed md ops listed) {i j : Nat} (hj : j ∈ Region.ready md ops listed) (hjk : ¬ j < k) (hik : i < k) : listed.getD i false = true := by
  obtain ⟨_, o, ho, hall⟩ := mem_ready.1 hj
  unfold tailB at h
  rw [List.all_eq_true] at h
  have h1 := h j (by rw [List.mem_range]; exact (Array.getElem?_eq_some_iff.1 ho).1)
  simp only [hjk, decide_false, Bool.false_or] at h1
  rw [List.all_eq_true] at h1
  have h2 := h1 i (by rw [List.mem_range]; exact hik)
  refine upsN_listed hc _ _ ?_ i (by simpa using h2)
  intro i' hi'
  unfold waits at hi'
  rw [ho] at hi'
  obtain ⟨e, he, rfl⟩ := List.mem_map.1 hi'
  obtain ⟨he, hb⟩ := List.mem_filter.1 he
  exact hall e (by simpa using he) hb

/-- A reading that may come up now may be taken first. -/
theorem wpAnyL_first {k : Nat} {i : Nat} {oi : Oper} {v : Value} (hi : ops[i]? = some oi) (hik : i < k) (hsel : ∀ (j : Nat) (o : Oper) cs b, ops[j]? = some o → o.op ≠ .select cs b) (ht : tailB md ops k = true) :
    ∀ (fuel : Nat) (listed : Array Bool) (a : Act) (w : World), closed md ops listed → C w →
      (∀ j oj, ops[j]? = some oj → j ≠ i → listed.getD j true = false → (∀ e ∈ oj.after, Region.binds md e = true → e.on ≠ i) → oi.apart ops oj = true) →
      i ∈ Region.ready md ops listed → ReadsTo P ops C oi v a →
      wpAnyL P md ops C k Q fuel (listed.setIfInBounds i true) (a.put oi.dst v) w → wpAnyL P md ops C k Q (fuel + 1) listed a w := by
  intro fuel
  induction fuel with
  | zero =>
    intro listed a w hcl hC _ hr hy H
    refine ⟨fun h => (by rw [h] at hr; cases hr), fun j hj => ?_⟩
    by_cases hji : j = i
    · subst hji; rw [if_pos hik]; exact hy.lOp hi hC ⟨hC, H⟩
    · have := ready_mono hj hji
      rw [H.1] at this
      cases this
  | succ fuel ih =>
    intro listed a w hcl hC hfree hr hy H
    refine ⟨fun h => (by rw [h] at hr; cases hr), fun j hj => ?_⟩
    by_cases hji : j = i
    · subst hji; rw [if_pos hik]; exact hy.lOp hi hC ⟨hC, H⟩
    · have h1 := H.2 j (ready_mono hj hji)
      have hjk : j < k := by
        rcases Nat.lt_or_ge j k with h' | h'
        · exact h'
        · have h2 := tail_waits ht hcl hj (by omega) hik
          have h0 := (mem_ready.1 hr).1
          rcases Nat.lt_or_ge i listed.size with h' | h'
          · simp [h'] at h0 h2; rw [h0] at h2; cases h2
          · simp [Array.getElem?_eq_none h'] at h2
      rw [if_pos hjk] at h1 ⊢
      obtain ⟨hjun, oj, hoj, hall⟩ := mem_ready.1 hj
      have hnot : ∀ e ∈ oj.after, Region.binds md e = true → e.on ≠ i := fun e he hb heq => by
        have h1 := hall e he hb
        have h0 := (mem_ready.1 hr).1
        rw [heq] at h1
        rcases Nat.lt_or_ge i listed.size with h' | h'
        · simp [h'] at h0 h1; rw [h0] at h1; cases h1
        · simp [Array.getElem?_eq_none h'] at h1
      have h2 := lOp_put hoj (hfree j oj hoj hji hjun hnot) (fun cs b => hsel i oi cs b hi) (fun cs b => hsel j oj cs b hoj) hy h1
      have hfree' : ∀ k ok, ops[k]? = some ok → k ≠ i → (listed.setIfInBounds j true).getD k true = false →
          (∀ e ∈ ok.after, Region.binds md e = true → e.on ≠ i) → oi.apart ops ok = true := fun k ok hk hki hun hno => by
        refine hfree k ok hk hki ?_ hno
        by_cases hjk : j = k
        · subst hjk; exact hjun
        · rw [getD_set_ne true hjk] at hun; exact hun
      refine lOp_mono (fun a' w' h3 => ⟨h3.2.1, ih (listed.setIfInBounds j true) a' w' (closed_set hcl hj) h3.2.1 hfree' (ready_mono hr (Ne.symm hji)) h3.1 ?_⟩) h2
      rw [Array.setIfInBounds_comm _ _ hji]
      exact h3.2.2

/-! ### the stages -/
inductive Stage where
  | reads (l : List Oper)
  | loud (o : Oper)

def wpStages (P : Program) (ops : Array Oper) (C : World → Prop) (Q : Exit → Act → World → Prop) (tail : List Oper) : List Stage → Act → World → Prop
  | [], a, w => wpList P ops Q tail a w
  | .reads l :: rest, a, w => wpQuiet P ops C (fun a' => wpStages P ops C Q tail rest a' w) l a
  | .loud o :: rest, a, w => if Region.wanted o (yielded ops a.tmps) then o.wp P a w (fun a' w' => C w' ∧ wpStages P ops C Q tail rest a' w') noWay else wpStages P ops C Q tail rest (a.put o.dst undef) w

theorem wpStages_nil {tail : List Oper} {a : Act} {w : World} (h : wpList P ops Q tail a w) : wpStages P ops C Q tail [] a w := h
theorem wpStages_reads {tail l : List Oper} {rest : List Stage} {a : Act} {w : World} (h : wpQuiet P ops C (fun a' => wpStages P ops C Q tail rest a' w) l a) : wpStages P ops C Q tail (.reads l :: rest) a w := h
theorem wpStages_loud {tail : List Oper} {o : Oper} {rest : List Stage} {a : Act} {w : World} (hw : Region.wanted o (yielded ops a.tmps) = true)
    (h : ∀ K : Act → World → Prop, (∀ a w, C w → wpStages P ops C Q tail rest a w → K a w) → o.wp P a w K noWay) : wpStages P ops C Q tail (.loud o :: rest) a w := by
  unfold wpStages
  rw [if_pos hw]
  exact h _ fun _ _ h1 h2 => ⟨h1, h2⟩

def flat : List Stage → List (Bool × Oper)
  | [] => []
  | .reads l :: rest => l.map (fun o => (false, o)) ++ flat rest
  | .loud o :: rest => (true, o) :: flat rest

def wpFlat (P : Program) (ops : Array Oper) (C : World → Prop) (Q : Exit → Act → World → Prop) (tail : List Oper) : List (Bool × Oper) → Act → World → Prop
  | [], a, w => wpList P ops Q tail a w
  | (false, o) :: rest, a, w => if Region.wanted o (yielded ops a.tmps) then o.quiet P a C (fun a' => wpFlat P ops C Q tail rest a' w) else wpFlat P ops C Q tail rest (a.put o.dst undef) w
  | (true, o) :: rest, a, w => if Region.wanted o (yielded ops a.tmps) then o.wp P a w (fun a' w' => C w' ∧ wpFlat P ops C Q tail rest a' w') noWay else wpFlat P ops C Q tail rest (a.put o.dst undef) w

theorem wpFlat_reads {tail : List Oper} {rest : List (Bool × Oper)} {w : World} : ∀ (l : List Oper) (a : Act), wpQuiet P ops C (fun a' => wpFlat P ops C Q tail rest a' w) l a → wpFlat P ops C Q tail (l.map (fun o => (false, o)) ++ rest) a w
  | [], _, h => h
  | o :: l, a, h => by
    simp only [List.map_cons, List.cons_append, wpFlat]
    unfold wpQuiet at h
    split
    · rename_i hw; rw [if_pos hw] at h; exact Oper.quiet_mono (fun a' => wpFlat_reads l a') h
    · rename_i hw; rw [if_neg hw] at h; exact wpFlat_reads l _ h

theorem wpQuiet_mono {Q1 Q2 : Act → Prop} (h : ∀ a, Q1 a → Q2 a) : ∀ (l : List Oper) (a : Act), wpQuiet P ops C Q1 l a → wpQuiet P ops C Q2 l a
  | [], _, h1 => h _ h1
  | o :: l, a, h1 => by
    unfold wpQuiet at *
    split
    · rename_i hw; rw [if_pos hw] at h1; exact Oper.quiet_mono (fun a' => wpQuiet_mono h l a') h1
    · rename_i hw; rw [if_neg hw] at h1; exact wpQuiet_mono h l _ h1

theorem wpFlat_of_stages {tail : List Oper} : ∀ (st : List Stage) (a : Act) (w : World), wpStages P ops C Q tail st a w → wpFlat P ops C Q tail (flat st) a w
  | [], _, _, h => h
  | .reads l :: rest, a, w, h => wpFlat_reads l a (wpQuiet_mono (fun a' h => wpFlat_of_stages rest a' w h) l a h)
  | .loud o :: rest, a, w, h => by
    unfold wpStages at h
    simp only [flat, wpFlat]
    split
    · rename_i hw; rw [if_pos hw] at h; exact Oper.wp_mono (fun a' w' h1 => ⟨h1.1, wpFlat_of_stages rest a' w' h1.2⟩) h
    · rename_i hw; rw [if_neg hw] at h; exact wpFlat_of_stages rest _ w h

def chainB (md : Region.Mode) (ops : Array Oper) : Nat → Nat → Array Bool → Bool
  | 0, _, listed => (Region.ready md ops listed).isEmpty
  | n + 1, k, listed => Region.ready md ops listed == [k] && chainB md ops n (k + 1) (listed.setIfInBounds k true)

theorem wpAnyL_tail {k : Nat} : ∀ (l : List Oper) (k' : Nat) (listed : Array Bool) (a : Act) (w : World), k ≤ k' → (∀ j, l[j]? = ops[k' + j]?) → chainB md ops l.length k' listed = true → wpList P ops Q l a w → wpAnyL P md ops C k Q l.length listed a w
  | [], _, _, _, _, _, _, hB, h => ⟨by simpa [chainB] using hB, h⟩
  | o :: l, k', listed, a, w, hk, hl, hB, h => by
    have h0 : ops[k']? = some o := by simpa using (hl 0).symm
    simp only [List.length_cons, chainB, Bool.and_eq_true, beq_iff_eq] at hB
    obtain ⟨hr, hB'⟩ := hB
    refine ⟨fun e => (by rw [hr] at e; cases e), fun i hi => ?_⟩
    rw [hr] at hi
    obtain rfl := List.mem_singleton.1 hi
    rw [if_neg (by omega)]
    have h1 : wpOp P ops Q i (wpList P ops Q l) a w := by unfold wpOp; simp only [h0]; exact h
    exact wpOp_mono (fun a' w' h2 => wpAnyL_tail l (i + 1) _ a' w' (by omega) (fun j => by have := hl (j + 1); simpa [Nat.add_assoc, Nat.add_comm 1 j] using this) hB' h2) h1

def planB (md : Region.Mode) (ops : Array Oper) (k : Nat) : List (Bool × Nat) → Array Bool → Bool
  | [], listed => chainB md ops (ops.size - k) k listed
  | (false, i) :: rest, listed => decide (i < k) && ((ops[i]?).map plainOp).getD false && (Region.ready md ops listed).contains i && Region.free md ops listed i && planB md ops k rest (listed.setIfInBounds i true)
  | (true, i) :: rest, listed => decide (i < k) && Region.ready md ops listed == [i] && planB md ops k rest (listed.setIfInBounds i true)

theorem wpAnyL_plan {k : Nat} (hs : Region.noSelect ops = true) (ht : tailB md ops k = true) (tail : List Oper) (htl : ∀ j, tail[j]? = ops[k + j]?) (hlen : tail.length = ops.size - k) :
    ∀ (p : List (Bool × Nat)) (L : List (Bool × Oper)) (listed : Array Bool) (a : Act) (w : World), closed md ops listed → C w → L.map (fun x => (x.1, some x.2)) = p.map (fun x => (x.1, ops[x.2]?)) →
      planB md ops k p listed = true → wpFlat P ops C Q tail L a w → wpAnyL P md ops C k Q (p.length + tail.length) listed a w
  | [], L, listed, a, w, hcl, hC, hp, hB, h => by
    obtain rfl : L = [] := by simpa using hp
    simp only [planB] at hB
    simp only [List.length_nil, Nat.zero_add]
    rw [← hlen] at hB
    exact wpAnyL_tail tail k listed a w (Nat.le_refl _) htl hB h
  | (b, i) :: p, [], _, _, _, _, _, hp, _, _ => by simp at hp
  | (b, i) :: p, (b', o) :: L, listed, a, w, hcl, hC, hp, hB, h => by
    simp only [List.map_cons, List.cons.injEq, Prod.mk.injEq] at hp
    obtain ⟨⟨rfl, ho⟩, hp⟩ := hp
    rw [show ((b', i) :: p).length + tail.length = (p.length + tail.length) + 1 by simp; omega]
    cases b' with
    | false =>
      simp only [planB, Bool.and_eq_true, decide_eq_true_eq] at hB
      obtain ⟨⟨⟨⟨hik, hpl⟩, hr⟩, hf⟩, hB⟩ := hB
      rw [← ho] at hpl
      have hr' : i ∈ Region.ready md ops listed := by simpa using hr
      simp only [wpFlat] at h
      have key : ∃ v, ReadsTo P ops C o v a ∧ wpFlat P ops C Q tail L (a.put o.dst v) w := by
        by_cases hw : Region.wanted o (yielded ops a.tmps) = true
        · rw [if_pos hw] at h
          obtain ⟨v, h1, h2⟩ := h
          exact ⟨v, readsTo_of_quiet hpl hw h1, h2⟩
        · rw [if_neg hw] at h
          exact ⟨undef, .inr ⟨by simpa using hw, rfl⟩, h⟩
      obtain ⟨v, hy, hK⟩ := key
      exact wpAnyL_first ho.symm hik (Region.noSelect_spec hs) ht (p.length + tail.length) listed a w hcl hC (Region.free_spec ho.symm hf) hr' hy
        (wpAnyL_plan hs ht tail htl hlen p L _ _ w (closed_set hcl hr') hC hp hB hK)
    | true =>
      simp only [planB, Bool.and_eq_true, decide_eq_true_eq, beq_iff_eq] at hB
      obtain ⟨⟨hik, hr⟩, hB⟩ := hB
      refine ⟨fun e => (by rw [hr] at e; cases e), fun j hj => ?_⟩
      have hj' := hj
      rw [hr] at hj
      obtain rfl := List.mem_singleton.1 hj
      rw [if_pos hik]
      unfold lOp
      simp only [← ho]
      simp only [wpFlat] at h
      split
      · rename_i hw
        rw [if_pos hw] at h
        exact Oper.wp_mono (fun a' w' h1 => ⟨h1.1, wpAnyL_plan hs ht tail htl hlen p L _ a' w' (closed_set hcl hj') h1.1 hp hB h1.2⟩) h
      · rename_i hw
        rw [if_neg hw] at h
        exact ⟨hC, wpAnyL_plan hs ht tail htl hlen p L _ _ w (closed_set hcl hj') hC hp hB h⟩

def nthOp : List Oper → Nat → Option Oper
  | [], _ => none
  | o :: _, 0 => some o
  | _ :: l, i + 1 => nthOp l i
theorem nthOp_eq : ∀ (l : List Oper) (i : Nat), nthOp l i = l[i]?
  | [], _ => by simp [nthOp]
  | _ :: _, 0 => by simp [nthOp]
  | _ :: l, i + 1 => by simp [nthOp, nthOp_eq l i]

/-- The whole check. -/
def stagesB (ops : Array Oper) (p : List (Bool × Nat)) (k : Nat) : Bool :=
  Region.noSelect ops && tailB .any ops k && decide (p.length + (ops.size - k) = ops.size) && decide (k ≤ ops.size) && planB .any ops k p (Array.replicate ops.size false)

/-- **ONE WALK SERVES EVERY ORDER**, of a region that reads, calls and writes. -/
theorem wp_region_stages {id : Nat} {l : List Oper} (C : World → Prop) (p : List (Bool × Nat)) (k : Nat) (st : List Stage) (tail : List Oper) {a : Act} {w : World} (hm : P.follows .mixedOrders = true)
    (hB : stagesB l.toArray p k = true) (hp : (flat st).map (fun x => (x.1, some x.2)) = p.map (fun x => (x.1, nthOp l x.2))) (ht : l.drop k = tail)
    (hC : C (w.drewN 1)) (h : wpStages P l.toArray C Q tail st a (w.drewN 1)) : (Code.region id l.toArray true).wp P Q a w := by
  simp only [stagesB, Bool.and_eq_true, decide_eq_true_eq] at hB
  obtain ⟨⟨⟨⟨hs, htb⟩, hlen⟩, hk⟩, hB⟩ := hB
  subst ht
  refine wp_region_any hm (wpAny_of_wpAnyL (C := C) (k := k) _ _ _ _ ?_)
  have h1 := wpAnyL_plan (C := C) (Q := Q) hs htb (l.drop k) (fun j => by simp) (by simp) p (flat st) (Array.replicate l.toArray.size false) a (w.drewN 1)
    (fun j o _ hl => by
      exfalso
      have e : (Array.replicate l.toArray.size false).getD j false = false := by
        rw [Array.getD_eq_getD_getElem?, Array.getElem?_replicate]; split <;> rfl
      rw [e] at hl
      cases hl) hC (by rw [hp]; simp [nthOp_eq]) hB (wpFlat_of_stages st a _ h)
  rw [show p.length + (l.drop k).length = l.toArray.size by simp at hlen ⊢; omega] at h1
  exact h1
end
end Go.Proofs.Ytonbhpadoplpkaa
