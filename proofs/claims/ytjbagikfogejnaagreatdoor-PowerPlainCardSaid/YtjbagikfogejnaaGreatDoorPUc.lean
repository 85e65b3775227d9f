import Derived.Test.YtjbagikfogejnaaGreatDoorPUb
import Derived.Test.YtjbagikfogejnaaGreatDoorProg
import Derived.WalkKit
import Derived.Laws.OwnMore
import Derived.Deep.Draws
import Derived.Deep.OwnRows
import Derived.Deep.LoopGhost
import Derived.Deep.QuietTactic
import Derived.BigQuiet
import Derived.Lib.Hide
import Derived.Maps.AppendAt
import Derived.Laws.Rows
import Derived.OneCell
import Derived.Shelf.Spec.BitsCarry
import Derived.Deep.DeepCutAuto
import Derived.Shelf.Small.Bits
import Derived.Shelf.Strconv.Itoa0
import Derived.Shelf.Bits.Mul64
import Derived.Lib.BitFns
import Derived.Deep.CutBlock
import Derived.BigRegion
import Derived.StillTailTactics
import Derived.Deep.AppendLies
import Derived.Orders
import Derived.Lib.SliceRun
import Derived.Deep.MidRow
import Derived.BigCall
import Derived.Laws.AppendOwn
import Derived.Great.BuildSlice
import Derived.Laws.Append
import Derived.Deep.RegionWith
import Derived.WalkMore
import Derived.Laws.EntriesVeiled
import Derived.Laws.CopyOwn
import Derived.Scope
import Derived.Test.YtjbagikfogejnaaGreatDoorRows
import Derived.ProofKit
import Derived.OpenShut
import Derived.Deep.SlicePairs
import Derived.WideKeyArgs
import Derived.Test.YtjbagikfogejnaaGreatDoorCards
import Derived.Test.YtjbagikfogejnaaGreatDoorTie
import Derived.LaidMore
import Derived.Stop.Joined
import Derived.SevenTiedAt
/- Of: Abs6, Abs7, Abs8, Ty, Abs9, Abs10, Abs11, Abs12, Abs13, Abs14, Abs15, Gcd1, DivP, Div1, Div2, DivQ, Div3, Limb. -/
/- An abstract machine: the operations that read, one by one. -/
namespace Go.Proofs.YtjbagikfogejnaaGreatDoor
open Go.RowKit Go.Deep
section
variable {P : Program} {d : Option Nat} {ty : TypeId} {pos : String} {aft : Array Edge} {ev : Operand → Option AR}
theorem q_of {o : Oper} {x : Operand} {r v : AR} (hx : ev x = some r) (hm : x ∈ o.op.operands.toList)
    (h : ∀ (G : Nat → Prop) (β : Nat → Nat) (w : World) (U : Nat → Prop) (ρ : Operand → Value), r.low U → r.ok G β w (ρ x) → ∃ val, (execOp ρ o).run P w = .ok (.value val) w ∧ v.ok G β w val ∧ v.low U) : Quiet P o ev v := by
  intro G β w U ρ _ _ hρ
  obtain ⟨h1, h2⟩ := hρ x r hm hx
  obtain ⟨val, h3, h4, h5⟩ := h G β w U ρ h1 h2
  exact ⟨val, w, h3, Below.refl _ _, h4, h5⟩
theorem q_of2 {o : Oper} {x y : Operand} {r s v : AR} (hx : ev x = some r) (hy : ev y = some s) (hm : x ∈ o.op.operands.toList) (hm2 : y ∈ o.op.operands.toList)
    (h : ∀ (G : Nat → Prop) (β : Nat → Nat) (w : World) (U : Nat → Prop) (ρ : Operand → Value), r.low U → r.ok G β w (ρ x) → s.low U → s.ok G β w (ρ y) → ∃ val, (execOp ρ o).run P w = .ok (.value val) w ∧ v.ok G β w val ∧ v.low U) : Quiet P o ev v := by
  intro G β w U ρ _ _ hρ
  obtain ⟨h1, h2⟩ := hρ x r hm hx
  obtain ⟨h3, h4⟩ := hρ y s hm2 hy
  obtain ⟨val, h5, h6, h7⟩ := h G β w U ρ h1 h2 h3 h4
  exact ⟨val, w, h5, Below.refl _ _, h6, h7⟩
theorem q_move {x : Operand} {v : AR} (hx : ev x = some v) : Quiet P ⟨d, .move x, ty, pos, aft, none⟩ ev v :=
  q_of hx (by simp [Op.operands]) fun _ _ _ _ ρ hl hk => ⟨ρ x, rfl, hk, hl⟩
theorem q_assign {x : Operand} {v : AR} (hx : ev x = some v) : Quiet P ⟨d, .assign x, ty, pos, aft, none⟩ ev v :=
  q_of hx (by simp [Op.operands]) fun _ _ _ _ ρ hl hk => ⟨ρ x, rfl, hk, hl⟩
theorem q_extract {x : Operand} {l : List AV} {i : Nat} {v : AV} (hx : ev x = some (.tup l)) (hi : l[i]? = some v) : Quiet P ⟨d, .extract x i, ty, pos, aft, none⟩ ev (.val v) :=
  q_of hx (by simp [Op.operands]) fun G β w U ρ hl hk => by
    obtain ⟨vs, e, h⟩ := hk
    obtain ⟨u, hu, hok⟩ := oksV_get h i v hi
    refine ⟨u, ?_, hok, hl v (List.mem_of_getElem? hi)⟩
    have hu' : vs.toArray[i]? = some u := by simpa using hu
    simp [execOp, Instr.extract, e, hu]
theorem q_not {x : Operand} {t : Bool} (hx : ev x = some (.val (.one (.b t)))) {xt : TypeId} : Quiet P ⟨d, .unOp .not xt x, ty, pos, aft, none⟩ ev (.val (.one (.b (!t)))) :=
  q_of hx (by simp [Op.operands]) fun G β w U ρ hl hk => by
    have hk : ρ x = .bool t := hk
    exact ⟨.bool !t, by simp [execOp, Op.unary, hk], rfl, trivial⟩
theorem q_neg {x : Operand} {k : IntKind} {m : Int} (hx : ev x = some (.val (.one (.i k m)))) {xt : TypeId} : Quiet P ⟨d, .unOp .neg xt x, ty, pos, aft, none⟩ ev (.val (.one (.i k (k.wrap (0 - m))))) :=
  q_of hx (by simp [Op.operands]) fun G β w U ρ hl hk => by
    have hk : ρ x = .int k m := hk
    exact ⟨.int k (k.wrap (0 - m)), by simp [execOp, Op.unary, Op.intArith, hk], rfl, trivial⟩
section
variable {x y : Operand} {xt yt : TypeId} {k : IntKind} {m m' : Int}
theorem q_eq (hx : ev x = some (.val (.one (.i k m)))) (hy : ev y = some (.val (.one (.i k m')))) : Quiet P ⟨d, .binOp .eql xt x y yt, ty, pos, aft, none⟩ ev (.val (.one (.b (m == m')))) :=
  q_of2 hx hy (by simp [Op.operands]) (by simp [Op.operands]) fun G β w U ρ _ hk _ hk' => by
    have hk : ρ x = .int k m := hk
    have hk' : ρ y = .int k m' := hk'
    exact ⟨.bool (m == m'), by simp [execOp, eqGuard, binOp, Op.intCmp, hk, hk'], rfl, trivial⟩
theorem q_ne (hx : ev x = some (.val (.one (.i k m)))) (hy : ev y = some (.val (.one (.i k m')))) : Quiet P ⟨d, .binOp .neq xt x y yt, ty, pos, aft, none⟩ ev (.val (.one (.b (m != m')))) :=
  q_of2 hx hy (by simp [Op.operands]) (by simp [Op.operands]) fun G β w U ρ _ hk _ hk' => by
    have hk : ρ x = .int k m := hk
    have hk' : ρ y = .int k m' := hk'
    exact ⟨.bool (m != m'), by simp [execOp, eqGuard, binOp, Op.intCmp, hk, hk'], rfl, trivial⟩
theorem q_lt (hx : ev x = some (.val (.one (.i k m)))) (hy : ev y = some (.val (.one (.i k m')))) : Quiet P ⟨d, .binOp .lss xt x y yt, ty, pos, aft, none⟩ ev (.val (.one (.b (decide (m < m'))))) :=
  q_of2 hx hy (by simp [Op.operands]) (by simp [Op.operands]) fun G β w U ρ _ hk _ hk' => by
    have hk : ρ x = .int k m := hk
    have hk' : ρ y = .int k m' := hk'
    exact ⟨.bool (decide (m < m')), by simp [execOp, eqGuard, binOp, Op.intCmp, hk, hk'], rfl, trivial⟩
theorem q_le (hx : ev x = some (.val (.one (.i k m)))) (hy : ev y = some (.val (.one (.i k m')))) : Quiet P ⟨d, .binOp .leq xt x y yt, ty, pos, aft, none⟩ ev (.val (.one (.b (decide (m ≤ m'))))) :=
  q_of2 hx hy (by simp [Op.operands]) (by simp [Op.operands]) fun G β w U ρ _ hk _ hk' => by
    have hk : ρ x = .int k m := hk
    have hk' : ρ y = .int k m' := hk'
    exact ⟨.bool (decide (m ≤ m')), by simp [execOp, eqGuard, binOp, Op.intCmp, hk, hk'], rfl, trivial⟩
theorem q_gt (hx : ev x = some (.val (.one (.i k m)))) (hy : ev y = some (.val (.one (.i k m')))) : Quiet P ⟨d, .binOp .gtr xt x y yt, ty, pos, aft, none⟩ ev (.val (.one (.b (decide (m' < m))))) :=
  q_of2 hx hy (by simp [Op.operands]) (by simp [Op.operands]) fun G β w U ρ _ hk _ hk' => by
    have hk : ρ x = .int k m := hk
    have hk' : ρ y = .int k m' := hk'
    exact ⟨.bool (decide (m' < m)), by simp [execOp, eqGuard, binOp, Op.intCmp, hk, hk'], rfl, trivial⟩
theorem q_ge (hx : ev x = some (.val (.one (.i k m)))) (hy : ev y = some (.val (.one (.i k m')))) : Quiet P ⟨d, .binOp .geq xt x y yt, ty, pos, aft, none⟩ ev (.val (.one (.b (decide (m' ≤ m))))) :=
  q_of2 hx hy (by simp [Op.operands]) (by simp [Op.operands]) fun G β w U ρ _ hk _ hk' => by
    have hk : ρ x = .int k m := hk
    have hk' : ρ y = .int k m' := hk'
    exact ⟨.bool (decide (m' ≤ m)), by simp [execOp, eqGuard, binOp, Op.intCmp, hk, hk'], rfl, trivial⟩
theorem q_add (hx : ev x = some (.val (.one (.i k m)))) (hy : ev y = some (.val (.one (.i k m')))) : Quiet P ⟨d, .binOp .add xt x y yt, ty, pos, aft, none⟩ ev (.val (.one (.i k (k.wrap (m + m'))))) :=
  q_of2 hx hy (by simp [Op.operands]) (by simp [Op.operands]) fun G β w U ρ _ hk _ hk' => by
    have hk : ρ x = .int k m := hk
    have hk' : ρ y = .int k m' := hk'
    exact ⟨.int k (k.wrap (m + m')), by simp [execOp, eqGuard, binOp, Op.intArith, hk, hk'], rfl, trivial⟩
theorem q_sub (hx : ev x = some (.val (.one (.i k m)))) (hy : ev y = some (.val (.one (.i k m')))) : Quiet P ⟨d, .binOp .sub xt x y yt, ty, pos, aft, none⟩ ev (.val (.one (.i k (k.wrap (m - m'))))) :=
  q_of2 hx hy (by simp [Op.operands]) (by simp [Op.operands]) fun G β w U ρ _ hk _ hk' => by
    have hk : ρ x = .int k m := hk
    have hk' : ρ y = .int k m' := hk'
    exact ⟨.int k (k.wrap (m - m')), by simp [execOp, eqGuard, binOp, Op.intArith, hk, hk'], rfl, trivial⟩
theorem q_mul (hx : ev x = some (.val (.one (.i k m)))) (hy : ev y = some (.val (.one (.i k m')))) : Quiet P ⟨d, .binOp .mul xt x y yt, ty, pos, aft, none⟩ ev (.val (.one (.i k (k.wrap (m * m'))))) :=
  q_of2 hx hy (by simp [Op.operands]) (by simp [Op.operands]) fun G β w U ρ _ hk _ hk' => by
    have hk : ρ x = .int k m := hk
    have hk' : ρ y = .int k m' := hk'
    exact ⟨.int k (k.wrap (m * m')), by simp [execOp, eqGuard, binOp, Op.intArith, hk, hk'], rfl, trivial⟩
end
theorem q_len {x : Operand} {L : List Nat} {ats : Array TypeId} {st e : TypeId} (hx : ev x = some (.val (.one (.st (magP L))))) (ha : ats[0]? = some st) (hu : P.underlying st = some (.slice e)) :
    Quiet P ⟨d, .call { callee := .builtin .len, args := #[x], argTypes := ats }, ty, pos, aft, none⟩ ev (.val (.one (.i .i64 (L.length : Int)))) :=
  q_of hx (by simp [Op.operands, Call.operands]) fun G β w U ρ _ hk => by
    obtain ⟨A, l, c, he, hl, hc, hlim⟩ := hk
    subst hl
    refine ⟨.int .i64 (L.length : Int), ?_, rfl, trivial⟩
    simp [execOp, resolve, invoke, builtin, Builtin.len_, he, ha, run_underlying hu]
    rfl
/-- What a field is. -/
structure TyF (P : Program) (st : TypeId) (f off m : Nat) (row : Bool) : Prop where
  take : ∀ (w : World) (vs : List Value), off + m ≤ vs.length → (Instr.field st (.agg vs.toArray) f).run P w = .ok (mkVal row ((vs.drop off).take m)) w
  addr : ∀ (w : World) (b o : Nat), (Instr.fieldAt st (.pointer (some ⟨b, o, none⟩)) f).run P w = .ok (.pointer (some ⟨b, o + off, none⟩)) w
  one : row = false → m = 1
theorem tyF_of {st : TypeId} {f off m : Nat} {fields : Array Field} {fd : Field} {dd : TypeDesc} (row : Bool) (hu : P.underlying st = some (.struct fields)) (hf : fields[f]? = some fd) (ho : fd.offset = off) (hd : P.underlying fd.type = some dd)
    (hr : dd.isRow = row) (hi : (P.info? fd.type).map (·.size) = some m) (hm : m ≠ 0) (h1 : row = false → m = 1) : TyF P st f off m row where
  take := fun w vs hl => by
    subst ho
    have hagg : (isAgg fd.type).run P w = .ok row w := by
      unfold isAgg
      rw [Sem.run_bind, run_underlying hd w]
      subst hr
      cases dd <;> simp [TypeDesc.isRow]
    cases hq : P.info? fd.type with
    | none => simp [hq] at hi
    | some i =>
      have hs : i.size = m := by simpa [hq] using hi
      cases row with
      | true =>
        have e : vs.toArray.extract fd.offset (fd.offset + m) = ((vs.drop fd.offset).take m).toArray := by
          apply Array.ext'
          simp [List.extract_eq_take_drop]
        simp [Instr.field, Sem.run_bind, run_underlying hu, hf, part, asAgg, hagg, sizeOf, typeInfo, hq, hs, mkVal, List.extract_eq_take_drop]
      | false =>
        obtain rfl := h1 rfl
        have hlt : fd.offset < vs.length := by omega
        have e : ((vs.drop fd.offset).take 1).headD undef = vs[fd.offset] := by
          rw [List.drop_eq_getElem_cons hlt, List.take_succ_cons]; rfl
        have e2 : (part fd.type vs.toArray fd.offset).run P w = .ok vs[fd.offset] w := by
          unfold part
          rw [Sem.run_bind, hagg]
          simp [hlt]
        have e3 : mkVal false ((vs.drop fd.offset).take 1) = vs[fd.offset] := e
        rw [e3]
        simp [Instr.field, Sem.run_bind, run_underlying hu, hf, asAgg, e2]
  addr := fun w b o => by
    subst ho
    cases hq : P.info? fd.type with
    | none => simp [hq] at hi
    | some i =>
      have hs : i.size = m := by simpa [hq] using hi
      have hn : ¬ i.size = 0 := by omega
      simp [Instr.fieldAt, Sem.run_bind, run_underlying hu, hf, Instr.sureAddr, fieldPlace, sizeOf, typeInfo, hq, hn, Addr.add_mid]
  one := h1
theorem q_field {x : Operand} {st : TypeId} {f off m : Nat} {row : Bool} {cs r : List AC} {v : AV} (hx : ev x = some (.val (.agg cs))) (hf : TyF P st f off m row) (hr : rdO cs off m = some r) (hv : mkAV row r = v) :
    Quiet P ⟨d, .field st x f, ty, pos, aft, none⟩ ev (.val v) :=
  q_of hx (by simp [Op.operands]) fun G β w U ρ hl hk => by
    subst hv
    obtain ⟨vs, he, hok⟩ := hk
    obtain ⟨r1, r2, r3⟩ := rdO_get hr
    have hlen := oks_len hok
    have hys : oks G β w r ((vs.drop off).take m) := by
      refine oks_of_get (by simp; omega) fun k c v hc hv => ?_
      have hk : k < m := by have := (List.getElem?_eq_some_iff.1 hc).1; omega
      rw [r3 k hk] at hc
      obtain ⟨u, hu, hcu⟩ := oks_get hok _ _ hc
      rw [List.getElem?_take, if_pos hk, List.getElem?_drop, hu] at hv
      cases hv
      exact hcu
    refine ⟨mkVal row ((vs.drop off).take m), ?_, mkAV_ok hys (fun e => by have := hf.one e; simp; omega), mkAV_low fun c hc => ?_⟩
    · unfold execOp
      simp only [he, Sem.run_bind, hf.take w vs (by omega), Result.andThen_ok, Sem.run_pure]
    · obtain ⟨k, hk⟩ := List.getElem?_of_mem hc
      rw [r3 k (by have := (List.getElem?_eq_some_iff.1 hk).1; omega)] at hk
      exact hl c (List.mem_of_getElem? hk)
theorem q_fieldAddr {x : Operand} {st : TypeId} {f off m j o o' : Nat} {row : Bool} (hx : ev x = some (.val (.one (.ptr j o)))) (hf : TyF P st f off m row) (ho : o + off = o') :
    Quiet P ⟨d, .fieldAddr st x f, ty, pos, aft, none⟩ ev (.val (.one (.ptr j o'))) :=
  q_of hx (by simp [Op.operands]) fun G β w U ρ hl hk => by
    subst ho
    have hk : ρ x = .pointer (some ⟨β j, o, none⟩) := hk
    refine ⟨.pointer (some ⟨β j, o + off, none⟩), ?_, rfl, hl⟩
    unfold execOp
    simp only [hk, Sem.run_bind, hf.addr, Result.andThen_ok, Sem.run_pure]
/-- A number's record. -/
abbrev aInt (x : Raw) : AV := .agg [.b x.1, .st (magP x.2)]
abbrev aNum (x : Raw) : AR := .val (aInt x)
abbrev aB (x : Bool) : AV := .one (.b x)
abbrev aI (x : Int) : AV := .one (.i .i64 x)
theorem rawV_of_ok {G : Nat → Prop} {β : Nat → Nat} {w : World} {x : Raw} {v : Value} (h : (aInt x).ok G β w v) : RawV w v x := by
  obtain ⟨vs, rfl, h⟩ := h
  rcases vs with _ | ⟨a, _ | ⟨b, _ | ⟨c, vs⟩⟩⟩
  · exact h.elim
  · exact h.2.elim
  · obtain ⟨h1, ⟨A, l, c, h2, h3, h4, h5⟩, _⟩ := h
    have h1 : a = .bool x.1 := h1
    subst h1 h2
    exact ⟨A, l, c, rfl, h3, h4, h5⟩
  · exact h.2.2.elim
theorem ok_of_rawV {G : Nat → Prop} {β : Nat → Nat} {w : World} {x : Raw} {v : Value} (h : RawV w v x) : (aInt x).ok G β w v := by
  obtain ⟨A, l, c, rfl, h3, h4, h5⟩ := h
  exact ⟨[_, _], rfl, rfl, ⟨A, l, c, rfl, h3, h4, h5⟩, trivial⟩
/-- A contract on numbers' records, from its law. -/
theorem ct1 {f : FuncId} {fn : Func} {c : Code} {x : Raw} {res : AR} (hf : P.funcs[f]? = some fn) (hname : (fn.name == "runtime.NumGoroutine") = false) (hb : fn.body = some c) (hn : res.nop = true)
    (h : ∀ (w : World) (u : Value), RawV w u x → Calls P f #[u] w fun e w' => ∃ v, e = .returned v ∧ (∀ G β, res.ok G β w' v) ∧ Below w.heap.size w w') : Ct P f [aNum x] res where
  enters := fun vals w => enters_of hf hname hb vals w
  nop := hn
  calls := by
    intro G β w vals _ ha
    rcases vals with _ | ⟨u, _ | ⟨v, vs⟩⟩
    · exact ha.elim
    · refine (h w u (rawV_of_ok ha.1)).mono ?_
      rintro e w' ⟨v, rfl, h1, h2⟩
      exact ⟨v, rfl, h1 G β, h2⟩
    · exact ha.2.elim
theorem ct2 {f : FuncId} {fn : Func} {c : Code} {x y : Raw} {res : AR} (hf : P.funcs[f]? = some fn) (hname : (fn.name == "runtime.NumGoroutine") = false) (hb : fn.body = some c) (hn : res.nop = true)
    (h : ∀ (w : World) (u v : Value), RawV w u x → RawV w v y → Calls P f #[u, v] w fun e w' => ∃ r, e = .returned r ∧ (∀ G β, res.ok G β w' r) ∧ Below w.heap.size w w') : Ct P f [aNum x, aNum y] res where
  enters := fun vals w => enters_of hf hname hb vals w
  nop := hn
  calls := by
    intro G β w vals _ ha
    rcases vals with _ | ⟨u, _ | ⟨v, _ | ⟨t, vs⟩⟩⟩
    · exact ha.elim
    · exact ha.2.elim
    · refine (h w u v (rawV_of_ok ha.1) (rawV_of_ok ha.2.1)).mono ?_
      rintro e w' ⟨r, rfl, h1, h2⟩
      exact ⟨r, rfl, h1 G β, h2⟩
    · exact ha.2.2.elim
theorem tup_ok {G : Nat → Prop} {β : Nat → Nat} {w : World} {l : List AV} {vs : List Value} (h : oksV G β w l vs) : (AR.tup l).ok G β w (.tuple vs.toArray) := ⟨vs, rfl, h⟩
end
end Go.Proofs.YtjbagikfogejnaaGreatDoor
/- An abstract machine: records and rows. -/
namespace Go.Proofs.YtjbagikfogejnaaGreatDoor
open Go.RowKit Go.Deep
section
variable {P : Program} {d : Option Nat} {ty : TypeId} {pos : String} {aft : Array Edge} {ev : Operand → Option AR}
/-- A slice of numbers' records. -/
def polyP (xs : List Raw) : Pred where
  is := fun G w v => ∃ A n c, v = .slice A n c ∧ n = xs.length ∧ n ≤ c ∧ Poly w w.heap.size A xs ∧ (0 < xs.length → ∀ ad, A = some ad → ¬ G ad.block)
  cell := by
    rintro G w v ⟨A, l, c, rfl, _⟩
    exact ⟨noLimb_slice _ _ _, rfl⟩
  stay := by
    rintro G w w' v ⟨A, l, c, rfl, hl, hc, hp, hG⟩ m
    obtain ⟨H, hH, e⟩ := m.ext
    refine ⟨A, l, c, rfl, hl, hc, ⟨fun hn => ?_⟩, hG⟩
    obtain ⟨ad, ha, hb, hcs⟩ := hp.cells hn
    have hblk : w'.heap[ad.block]? = w.heap[ad.block]? := e.block _ hb fun h => hG hn ad ha (hH _ h)
    refine ⟨ad, ha, Nat.lt_of_lt_of_le hb e.size, fun j hj => ?_⟩
    obtain ⟨Am, l, c, h1, h2, h3, h4, h5⟩ := hcs j hj
    refine ⟨Am, l, c, ?_, ?_, h3, h4, (h5.ext (Nat.le_refl _) e).more e.size⟩
    · rw [cell_of_block (w := w) (by rw [block_of_add]; exact hblk)]; exact h1
    · rw [cell_of_block (w := w) (by show w'.heap[(ad.add (j * 2)).block]? = w.heap[(ad.add (j * 2)).block]?; rw [block_of_add]; exact hblk)]; exact h2
  grow := by
    rintro G G' w v ⟨A, l, c, rfl, hl, hc, hp, hG⟩ hg
    refine ⟨A, l, c, rfl, hl, hc, hp, fun hn ad ha h => ?_⟩
    obtain ⟨ad', ha', hb, _⟩ := hp.cells hn
    rw [ha] at ha'
    cases ha'
    rcases hg _ h with h | h
    · exact hG hn ad ha h
    · omega
/-- A pointer to a number's record that is only read. -/
def recP (x : Raw) : Pred where
  is := fun G w v => ∃ ad Am l c, v = .pointer (some ad) ∧ ¬ G ad.block ∧ ad.block < w.heap.size ∧ w.cell? ad = some (.bool x.1) ∧ w.cell? ⟨ad.block, ad.off + 1, none⟩ = some (.slice Am l c) ∧ l = x.2.length ∧ l ≤ c ∧ Lim w w.heap.size Am x.2
  cell := by
    rintro G w v ⟨ad, _, _, _, rfl, _⟩
    exact ⟨fun _ => by simp, rfl⟩
  stay := by
    rintro G w w' v ⟨ad, Am, l, c, rfl, hG, hb, h1, h2, h3, h4, h5⟩ m
    obtain ⟨H, hH, e⟩ := m.ext
    have hblk : w'.heap[ad.block]? = w.heap[ad.block]? := e.block _ hb fun h => hG (hH _ h)
    exact ⟨ad, Am, l, c, rfl, hG, Nat.lt_of_lt_of_le hb e.size, by rw [cell_of_block (w := w) hblk]; exact h1, by rw [cell_of_block (w := w) (by exact hblk)]; exact h2, h3, h4, (h5.ext (Nat.le_refl _) e).more e.size⟩
  grow := by
    rintro G G' w v ⟨ad, Am, l, c, rfl, hG, hb, h1⟩ hg
    refine ⟨ad, Am, l, c, rfl, fun h => ?_, hb, h1⟩
    rcases hg _ h with h | h
    · exact hG h
    · omega
theorem q_loadP {x : Operand} {r : Raw} {lt : TypeId} (hx : ev x = some (.val (.one (.st (recP r))))) (hty : TyI P lt 2 true) : Quiet P ⟨d, .load lt x, ty, pos, aft, none⟩ ev (aNum r) :=
  q_of hx (by simp [Op.operands]) fun G β w U ρ _ hk => by
    obtain ⟨ad, Am, l, c, he, hG, hb, h1, h2, h3, h4, h5⟩ := hk
    have hl := hty.loadA w ad [.bool r.1, .slice Am l c] (fun j v hv => by
      rcases j with _ | _ | j
      · simp at hv; subst hv
        have hz : ad.add 0 = ad := by unfold Addr.add; rw [if_pos rfl]
        rw [hz]; exact h1
      · simp at hv; subst hv
        have hz : ad.add 1 = ⟨ad.block, ad.off + 1, none⟩ := by unfold Addr.add; rw [if_neg (by omega)]
        rw [hz]; exact h2
      · simp at hv) rfl
    refine ⟨mkVal true [.bool r.1, .slice Am l c], ?_, ⟨_, rfl, rfl, ⟨Am, l, c, rfl, h3, h4, h5⟩, trivial⟩, by intro c hc; simp at hc; rcases hc with rfl | rfl <;> trivial⟩
    unfold execOp
    simp only [he, Instr.loadAt, Instr.sureAddr, Sem.run_bind, Sem.run_pure, Result.andThen_ok, hl]
theorem q_polyAt {x ix : Operand} {xs : List Raw} {k : Nat} {st e : TypeId} {r : Raw} (hx : ev x = some (.val (.one (.st (polyP xs))))) (hi : ev ix = some (.val (aI (k : Int)))) (hr : xs[k]? = some r) (hu : P.underlying st = some (.slice e)) (hs : (P.info? e).map (·.size) = some 2) :
    Quiet P ⟨d, .indexAddr st x ix, ty, pos, aft, none⟩ ev (.val (.one (.st (recP r)))) :=
  q_of2 hx hi (by simp [Op.operands]) (by simp [Op.operands]) fun G β w U ρ _ hk _ hk' => by
    obtain ⟨A, n, c, he, hn, hc, hp, hG⟩ := hk
    have hk' : ρ ix = .int .i64 (k : Int) := hk'
    have hkl : k < xs.length := (List.getElem?_eq_some_iff.1 hr).1
    obtain ⟨ad, Am, l, cc, ha, hb, h1, h2, h3, h4, h5⟩ := hp.at_ hkl
    have hr' : xs.getD k (false, []) = r := by simp [List.getD_eq_getElem?_getD, hr]
    rw [hr'] at h1 h3 h5
    subst ha
    refine ⟨.pointer (some (ad.add (k * 2))), ?_, ⟨ad.add (k * 2), Am, l, cc, rfl, ?_, ?_, h1, h2, h3, h4, h5⟩, trivial⟩
    · cases hq : P.info? e with
      | none => simp [hq] at hs
      | some i =>
        have hsz : i.size = 2 := by simpa [hq] using hs
        have h0 : (0 : Int) ≤ (k : Int) ∧ (k : Int) < ((xs.length : Nat) : Int) := by omega
        subst hn
        simp [execOp, Instr.indexAt, he, hk', asIntOf, run_underlying hu, sizeOf, typeInfo, hq, hsz, hkl]
    · rw [block_of_add]; exact hG (by omega) ad rfl
    · rw [block_of_add]; exact hb
theorem q_lenPoly {x : Operand} {xs : List Raw} {ats : Array TypeId} {st e : TypeId} (hx : ev x = some (.val (.one (.st (polyP xs))))) (ha : ats[0]? = some st) (hu : P.underlying st = some (.slice e)) :
    Quiet P ⟨d, .call { callee := .builtin .len, args := #[x], argTypes := ats }, ty, pos, aft, none⟩ ev (.val (.one (.i .i64 (xs.length : Int)))) :=
  q_of hx (by simp [Op.operands, Call.operands]) fun G β w U ρ _ hk => by
    obtain ⟨A, l, c, he, hl, hc, _⟩ := hk
    subst hl
    refine ⟨.int .i64 (xs.length : Int), ?_, rfl, trivial⟩
    simp [execOp, resolve, invoke, builtin, Builtin.len_, he, ha, run_underlying hu]
    rfl
def numbered : Nat → List Operand → List (Nat × Operand)
  | _, [] => []
  | k, x :: xs => (k, x) :: numbered (k + 1) xs
theorem numbered_map (ρ : Operand → Value) : ∀ (k : Nat) (xs : List Operand), (numbered k xs).map (fun p => (p.1, ρ p.2)) = ((xs.map ρ).zipIdx k).map fun x => (x.2, x.1)
  | _, [] => rfl
  | k, x :: xs => by simp [numbered, List.zipIdx_cons, numbered_map ρ (k + 1) xs]
theorem q_buildInts {st e : TypeId} {len : Nat} {parts : Array (Nat × Operand)} {ops : List Operand} {xs : List Raw} {ie : TypeInfo} {z : Value} (hp : parts.toList = numbered 0 ops) (hl : len = ops.length) (ha : evs ev ops = some (xs.map aNum))
    (hu : P.underlying st = some (.slice e)) (hi : P.info? e = some ie) (hs : ie.size = 2) (hz : ie.zero = some z) (hn : Nat.ble 1 len = true) (hn2 : Nat.ble len 1000 = true) :
    Quiet P ⟨d, .buildSlice st len parts, ty, pos, aft, none⟩ ev (.val (.one (.st (polyP xs)))) := by
  intro G β w U ρ hG _ hρ
  have hn := Nat.le_of_ble_eq_true hn
  have hn2 := Nat.le_of_ble_eq_true hn2
  have hops : ∀ x ∈ ops, x ∈ (Op.buildSlice st len parts).operands.toList := by
    have key : ∀ (k : Nat) (l : List Operand), (numbered k l).map (·.2) = l := by
      intro k l
      induction l generalizing k with
      | nil => rfl
      | cons a l ih => simp [numbered, ih]
    intro x hx
    simp only [Op.operands]
    rw [hp, key]
    exact hx
  have hvals : ∀ (ops : List Operand) (xs : List Raw), (∀ x ∈ ops, ∀ r, ev x = some r → r.ok G β w (ρ x)) → evs ev ops = some (xs.map aNum) → ops.length = xs.length ∧ ∀ (k : Nat) (x : Raw), xs[k]? = some x → ∃ A l c, (ops.map ρ)[k]? = some (Value.agg #[.bool x.1, .slice A l c]) ∧ l = x.2.length ∧ l ≤ c ∧ Lim w w.heap.size A x.2 := by
    intro ops
    induction ops with
    | nil =>
      intro xs _ h
      cases xs with
      | nil => exact ⟨rfl, by simp⟩
      | cons x xs => simp [evs] at h
    | cons o ops ih =>
      intro xs ho h
      simp only [evs] at h
      cases h1 : ev o with
      | none => simp [h1] at h
      | some r =>
        cases h2 : evs ev ops with
        | none => simp [h1, h2] at h
        | some rs =>
          cases xs with
          | nil => simp [h1, h2] at h
          | cons x xs =>
            simp only [h1, h2, Option.some.injEq, List.map_cons, List.cons.injEq] at h
            obtain ⟨rfl, rfl⟩ := h
            obtain ⟨g1, g2⟩ := ih xs (fun y hy => ho y (by simp [hy])) h2
            refine ⟨by simp [g1], fun k y hy => ?_⟩
            cases k with
            | zero =>
              simp at hy; subst hy
              obtain ⟨A, l, c, e1, e2, e3, e4⟩ := rawV_of_ok (ho o (by simp) _ h1)
              exact ⟨A, l, c, by simp [e1], e2, e3, e4⟩
            | succ k =>
              obtain ⟨A, l, c, e1, e2⟩ := g2 k y (by simpa using hy)
              exact ⟨A, l, c, by simpa using e1, e2⟩
  obtain ⟨hlen, hget⟩ := hvals ops xs (fun x hx r hr => (hρ x r (hops x hx) hr).2) ha
  have hsz : ∀ v ∈ ops.map ρ, v.cells.size = 2 := by
    intro v hv
    obtain ⟨k, hk⟩ := List.getElem?_of_mem hv
    have hkl : k < xs.length := by have := (List.getElem?_eq_some_iff.1 hk).1; simp at this; omega
    obtain ⟨A, l, c, e1, _⟩ := hget k xs[k] (List.getElem?_eq_getElem hkl)
    rw [hk] at e1
    cases e1
    rfl
  have hparts : (parts.map fun (i, x) => (i, ρ x)).toList = ((ops.map ρ).zipIdx 0).map fun x => (x.2, x.1) := by
    rw [Array.toList_map, hp]
    exact numbered_map ρ 0 ops
  have hfill := Great.fill_whole (s := 2) (by omega) (ops.map ρ) ((Array.range (len * 2)).map (z.cells[· % z.cells.size]!)) hsz (by simp [hl])
  have hrun := run_buildSlice (P := P) w st e len (parts.map fun (i, x) => (i, ρ x)) _ ie z hu hi hz (by rw [hs]; omega) (by rw [hs]; omega) (by rw [hs, hparts]; exact hfill)
  have hok : (polyP xs).is G (w.alloc (.cells ((ops.map ρ).flatMap fun v => v.cells.toList).toArray e)) (.slice (some ⟨w.heap.size, 0, none⟩) len len) := by
    refine ⟨some ⟨w.heap.size, 0, none⟩, len, len, rfl, by omega, Nat.le_refl _, ⟨fun _ => ?_⟩, fun _ ad e => ?_⟩
    rotate_left
    · cases e
      intro h
      have := hG _ h
      simp at this
    refine ⟨⟨w.heap.size, 0, none⟩, rfl, by simp, fun j hj => ?_⟩
    obtain ⟨A, l, c, e1, e2, e3, e4⟩ := hget j xs[j] (List.getElem?_eq_getElem hj)
    have hcell : ∀ k, (w.alloc (.cells ((ops.map ρ).flatMap fun v => v.cells.toList).toArray e)).cell? ⟨w.heap.size, k, none⟩ = ((ops.map ρ)[k / 2]?).bind (fun v => v.cells[k % 2]?) := by
      intro k
      rw [cell_of_row _ _ k _ _ (0, 0) (heap_alloc_new w _)]
      rw [List.getElem?_toArray, Great.flat_get (by omega) _ hsz]
    have hx : xs.getD j (false, []) = xs[j] := by simp [hj]
    rw [hx, add_plain]
    refine ⟨A, l, c, ?_, ?_, e2, e3, e4.call (Nat.le_refl _) ((Below.refl _ _).alloc (Nat.le_refl _) _)⟩
    · rw [hcell, show j * 2 / 2 = j by omega, show j * 2 % 2 = 0 by omega, e1]; rfl
    · show World.cell? _ ⟨w.heap.size, j * 2 + 1, none⟩ = _
      rw [hcell, show (j * 2 + 1) / 2 = j by omega, show (j * 2 + 1) % 2 = 1 by omega, e1]; rfl
  refine ⟨_, _, ?_, (Below.refl _ _).alloc (Nat.le_refl _) _, hok, trivial⟩
  · unfold execOp
    simp only [Sem.run_bind, hrun, Result.andThen_ok, Sem.run_pure]
inductive EvInts (ev : Operand → Option AR) : Nat → List (Nat × Operand) → List Raw → Prop
  | nil (k : Nat) : EvInts ev k [] []
  | cons (k : Nat) (x : Operand) (r : Raw) (rest : List (Nat × Operand)) (xs : List Raw) (hx : ev x = some (aNum r)) (h : EvInts ev (k + 1) rest xs) : EvInts ev k ((k, x) :: rest) (r :: xs)
theorem evInts_ops {k : Nat} {parts : List (Nat × Operand)} {xs : List Raw} (h : EvInts ev k parts xs) : parts = numbered k (parts.map (·.2)) ∧ evs ev (parts.map (·.2)) = some (xs.map aNum) ∧ parts.length = xs.length := by
  induction h with
  | nil k => exact ⟨rfl, rfl, rfl⟩
  | cons k x r rest xs hx h ih =>
    refine ⟨?_, ?_, by simp [ih.2.2]⟩
    · show (k, x) :: rest = (k, x) :: numbered (k + 1) (rest.map (·.2))
      rw [← ih.1]
    · exact evs_cons hx ih.2.1
theorem q_ints {st e : TypeId} {len : Nat} {parts : List (Nat × Operand)} {xs : List Raw} {ie : TypeInfo} {z : Value} (hl : Nat.beq len parts.length = true) (hn : Nat.ble 1 len = true) (hn2 : Nat.ble len 1000 = true)
    (hu : P.underlying st = some (.slice e)) (hi : P.info? e = some ie) (hs : ie.size = 2) (hz : ie.zero = some z) (h : EvInts ev 0 parts xs) :
    Quiet P ⟨d, .buildSlice st len parts.toArray, ty, pos, aft, none⟩ ev (.val (.one (.st (polyP xs)))) := by
  obtain ⟨h1, h2, h3⟩ := evInts_ops h
  exact q_buildInts (ops := parts.map (·.2)) (by simpa using h1) (by simpa using Nat.eq_of_beq_eq_true hl) h2 hu hi hs hz hn hn2
/-! ### records made of parts -/
def AV.cells : AV → List AC
  | .one c => [c]
  | .agg cs => cs
def AV.whole : AV → Bool
  | .one c => c.keepable
  | .agg _ => true
def abuild (pl : List (Nat × Nat)) (ev : Operand → Option AR) : List AC → List (Nat × Operand) → Option (List AC)
  | cs, [] => some cs
  | cs, (i, x) :: rest => match pl[i]? with
    | some (off, sz) => match ev x with
      | some (.val v) => match v.whole && Nat.beq v.cells.length sz with
        | true => match layO cs off v.cells with
          | some r => abuild pl ev r rest
          | none => none
        | false => none
      | _ => none
    | none => none
/-- How a type's values are made. -/
def TyB (P : Program) (ty : TypeId) (pl : List (Nat × Nat)) (zs : List AC) : Prop :=
  ∃ (f : Nat → Option (Nat × Nat)) (vs : List Value), (∀ i p, pl[i]? = some p → f i = some p) ∧ (∀ G β w, oks G β w zs vs) ∧ (∀ c ∈ zs, c.nop = true) ∧ ∀ (w : World) (parts : Array (Nat × Value)) (cells : Array Value), Instr.fill f vs.toArray parts.toList = some cells → (Instr.build ty parts).run P w = .ok (.agg cells) w
theorem tyB_struct {ty : TypeId} {it : TypeInfo} {z : Value} {fields : Array Field} {pl : List (Nat × Nat)} {zs : List AC} (vs : List Value) (hi : P.info? ty = some it) (hz : it.zero = some z) (hv : z.cells = vs.toArray) (hu : P.underlying ty = some (.struct fields))
    (hp : fields.toList.mapM (fun f => (P.info? f.type).map fun i => (f.offset, i.size)) = some pl) (hok : ∀ G β w, oks G β w zs vs) (hn : ∀ c ∈ zs, c.nop = true) : TyB P ty pl zs :=
  ⟨fun i => pl.toArray[i]?, vs, fun i p h => by simpa using h, hok, hn, fun w parts cells hf => run_build w ty parts cells (by
    unfold Program.built
    simp only [hi, hu, hz, hp, hv]
    exact hf)⟩
theorem tyB_array {ty e : TypeId} {it ie : TypeInfo} {z : Value} {len : Nat} {pl : List (Nat × Nat)} {zs : List AC} (vs : List Value) (hi : P.info? ty = some it) (hz : it.zero = some z) (hv : z.cells = vs.toArray) (hu : P.underlying ty = some (.array len e)) (hie : P.info? e = some ie)
    (hp : ∀ i p, pl[i]? = some p → p = (i * ie.size, ie.size)) (hok : ∀ G β w, oks G β w zs vs) (hn : ∀ c ∈ zs, c.nop = true) : TyB P ty pl zs :=
  ⟨fun i => some (i * ie.size, ie.size), vs, fun i p h => by rw [hp i p h], hok, hn, fun w parts cells hf => run_build w ty parts cells (by
    unfold Program.built
    simp only [hi, hu, hz, hie, hv]
    exact hf)⟩
theorem whole_cells {G : Nat → Prop} {β : Nat → Nat} {w : World} {v : AV} {x : Value} (hw : v.whole = true) (h : v.ok G β w x) : oks G β w v.cells x.cells.toList := by
  cases v with
  | one c =>
    have := AC.keep hw h
    rw [oneCell_cells this.2]
    exact ⟨h, trivial⟩
  | agg cs =>
    obtain ⟨vs, rfl, h⟩ := h
    simpa [AV.cells, Value.cells] using h
theorem fill_abs {G : Nat → Prop} {β : Nat → Nat} {w : World} {ρ : Operand → Value} {pl : List (Nat × Nat)} {f : Nat → Option (Nat × Nat)} (hf : ∀ i p, pl[i]? = some p → f i = some p) : ∀ (parts : List (Nat × Operand)) {cs r : List AC} {vs : List Value},
    (∀ i x, (i, x) ∈ parts → ∀ v, ev x = some v → v.ok G β w (ρ x)) → oks G β w cs vs → abuild pl ev cs parts = some r → ∃ us, Instr.fill f vs.toArray (parts.map fun p => (p.1, ρ p.2)) = some us.toArray ∧ oks G β w r us
  | [], cs, r, vs, _, ho, h => by simp [abuild] at h; subst h; exact ⟨vs, rfl, ho⟩
  | (i, x) :: rest, cs, r, vs, hρ, ho, h => by
    simp only [abuild] at h
    split at h
    · rename_i off sz hpl
      split at h
      · rename_i v hev
        split at h
        · rename_i hwh
          split at h
          · rename_i r' hlay
            simp only [Bool.and_eq_true] at hwh
            have hc := whole_cells hwh.1 (hρ i x (by simp) _ hev)
            have hsz : v.cells.length = sz := Nat.eq_of_beq_eq_true hwh.2
            obtain ⟨us, hus, hok⟩ := oks_lay ho hc hlay
            have hclen := oks_len hc
            obtain ⟨g1, g2, g3⟩ := layO_get hus
            obtain ⟨us', h1, h2⟩ := fill_abs hf rest (fun j y hy v hv => hρ j y (by simp [hy]) v hv) hok h
            refine ⟨us', ?_, h2⟩
            rw [← h1]
            have hfi := hf i _ hpl
            have hsize : (ρ x).cells.size = sz := by rw [← hsz, hclen]; simp
            have hle : off + (ρ x).cells.size ≤ vs.toArray.size := by simpa using g2
            have he : (ρ x).cells.zipIdx.foldl (fun cs (p : Value × Nat) => cs.setIfInBounds (off + p.2) p.1) vs.toArray = us.toArray := by
              obtain ⟨q1, q2⟩ := Great.foldl_set off (ρ x).cells.toList 0 vs.toArray
              have e0 : (ρ x).cells.zipIdx.foldl (fun cs (p : Value × Nat) => cs.setIfInBounds (off + p.2) p.1) vs.toArray = ((ρ x).cells.toList.zipIdx 0).foldl (fun cs (p : Value × Nat) => cs.setIfInBounds (off + p.2) p.1) vs.toArray := by
                rw [← Array.foldl_toList]
                simp
              rw [e0]
              apply Array.ext_getElem?
              intro k
              rw [q2]
              simp only [Nat.add_zero, List.getElem?_toArray, List.size_toArray]
              rw [g3]
              by_cases hk : off ≤ k ∧ k < off + (ρ x).cells.toList.length
              · rw [if_pos ⟨hk.1, hk.2, by omega⟩, if_pos hk]
              · rw [if_neg (fun h => hk ⟨h.1, h.2.1⟩), if_neg hk]
            simp only [List.map_cons, Instr.fill, hfi, hsize]
            rw [if_neg (by simp; rw [hsize] at hle; simpa using hle)]
            rw [he]
          · cases h
        · cases h
      · cases h
    · cases h
theorem q_build {bt : TypeId} {parts : Array (Nat × Operand)} {pl : List (Nat × Nat)} {zs r : List AC} (hb : TyB P bt pl zs) (hr : abuild pl ev zs parts.toList = some r) : Quiet P ⟨d, .build bt parts, ty, pos, aft, none⟩ ev (.val (.agg r)) := by
  intro G β w U ρ hG _ hρ
  obtain ⟨f, vs, hf, hok, hn, hrun⟩ := hb
  have hmem : ∀ i x, (i, x) ∈ parts.toList → x ∈ (Op.build bt parts).operands.toList := by
    intro i x hx
    simp only [Op.operands]
    exact List.mem_map.2 ⟨(i, x), hx, rfl⟩
  obtain ⟨us, h1, h2⟩ := fill_abs (ρ := ρ) hf parts.toList (fun i x hx v hv => (hρ x v (hmem i x hx) hv).2) (hok G β w) hr
  refine ⟨.agg us.toArray, w, ?_, Below.refl _ _, ⟨us, rfl, h2⟩, ?_⟩
  · have := hrun w (parts.map fun (i, x) => (i, ρ x)) us.toArray (by rw [Array.toList_map]; exact h1)
    unfold execOp
    simp only [Sem.run_bind, this, Result.andThen_ok, Sem.run_pure]
  · have key : ∀ (ps : List (Nat × Operand)) (cs r : List AC), (∀ i x, (i, x) ∈ ps → ∀ v, ev x = some v → v.low U) → (∀ c ∈ cs, c.low U) → abuild pl ev cs ps = some r → ∀ c ∈ r, c.low U := by
      intro ps
      induction ps with
      | nil => intro cs r _ hc h; simp [abuild] at h; subst h; exact hc
      | cons p ps ih =>
        obtain ⟨i, x⟩ := p
        intro cs r hlow hc h
        simp only [abuild] at h
        split at h
        · split at h
          · rename_i v hev
            split at h
            · split at h
              · rename_i r' hlay
                refine ih r' r (fun j y hy v hv => hlow j y (by simp [hy]) v hv) (fun c hcm => ?_) h
                obtain ⟨k, hk⟩ := List.getElem?_of_mem hcm
                rw [(layO_get hlay).2.2] at hk
                split at hk
                · have hvl := hlow i x (by simp) _ hev
                  have hm := List.mem_of_getElem? hk
                  cases v with
                  | one c' => simp [AV.cells] at hm; subst hm; exact hvl
                  | agg cs' => exact hvl c hm
                · exact hc c (List.mem_of_getElem? hk)
              · cases h
            · cases h
          · cases h
        · cases h
    exact key parts.toList zs r (fun i x hx v hv => (hρ x v (hmem i x hx) hv).1) (fun c hc => AC.nop_low (hn c hc) U) hr
/-- A place in an array. -/
theorem q_arrayAt {x ix : Operand} {j o o' len sz : Nat} {k : IntKind} {m : Int} {at_ e : TypeId} (hx : ev x = some (.val (.one (.ptr j o)))) (hi : ev ix = some (.val (.one (.i k m)))) (hu : P.underlying at_ = some (.array len e)) (hs : (P.info? e).map (·.size) = some sz) (h0 : decide (0 ≤ m ∧ m < (len : Int)) = true) (ho : o + m.toNat * sz = o') :
    Quiet P ⟨d, .indexAddr at_ x ix, ty, pos, aft, none⟩ ev (.val (.one (.ptr j o'))) :=
  q_of2 hx hi (by simp [Op.operands]) (by simp [Op.operands]) fun G β w U ρ hl hk _ hk' => by
    subst ho
    have hk : ρ x = .pointer (some ⟨β j, o, none⟩) := hk
    have hk' : ρ ix = .int k m := hk'
    have h0 := of_decide_eq_true h0
    refine ⟨.pointer (some ⟨β j, o + m.toNat * sz, none⟩), ?_, rfl, hl⟩
    cases hq : P.info? e with
    | none => simp [hq] at hs
    | some i =>
      have hsz : i.size = sz := by simpa [hq] using hs
      simp [execOp, Instr.indexAt, hk, hk', asIntOf, run_underlying hu, sizeOf, typeInfo, hq, hsz, h0.1, h0.2, Instr.sureAddr, Addr.add_mid]
theorem q_pickT {c x y : Operand} {v : AR} (hc : ev c = some (.val (.one (.b true)))) (hx : ev x = some v) : Quiet P ⟨d, .pick c x y, ty, pos, aft, none⟩ ev v :=
  q_of2 hc hx (by simp [Op.operands]) (by simp [Op.operands]) fun G β w U ρ _ hk hl hk' => by
    have hk : ρ c = .bool true := hk
    exact ⟨ρ x, by simp [execOp, hk, asBool], hk', hl⟩
theorem q_pickF {c x y : Operand} {v : AR} (hc : ev c = some (.val (.one (.b false)))) (hy : ev y = some v) : Quiet P ⟨d, .pick c x y, ty, pos, aft, none⟩ ev v :=
  q_of2 hc hy (by simp [Op.operands]) (by simp [Op.operands]) fun G β w U ρ _ hk hl hk' => by
    have hk : ρ c = .bool false := hk
    exact ⟨ρ y, by simp [execOp, hk, asBool], hk', hl⟩
end
end Go.Proofs.YtjbagikfogejnaaGreatDoor
/- An abstract machine: the walk's steps, each by its operation. -/
namespace Go.Proofs.YtjbagikfogejnaaGreatDoor
open Go.RowKit Go.Deep
section
variable {P : Program} {n : Nat} {all ops : List Oper} {draw : Bool} {acc : List (AR × Eff)} {tm : List (Nat × AR)} {bx : List (Nat × TypeId × List AC)} {nb : Nat} {K : ASt → Prop} {d : Nat} {ty : TypeId} {pos : String} {aft : Array Edge}
theorem AW_move {x : Operand} {v : AR} (hd : Nat.blt d n = true) (hx : ASt.ev ⟨tm, bx, nb⟩ x = some v) (h : AW P n all draw ((v, .no) :: acc) ⟨(d, v) :: tm, bx, nb⟩ ops K) : AW P n all draw acc ⟨tm, bx, nb⟩ (⟨some d, .move x, ty, pos, aft, none⟩ :: ops) K :=
  AW_quiet hd (q_move hx) h
theorem AW_assign {x : Operand} {v : AR} (hd : Nat.blt d n = true) (hx : ASt.ev ⟨tm, bx, nb⟩ x = some v) (h : AW P n all draw ((v, .no) :: acc) ⟨(d, v) :: tm, bx, nb⟩ ops K) : AW P n all draw acc ⟨tm, bx, nb⟩ (⟨some d, .assign x, ty, pos, aft, none⟩ :: ops) K :=
  AW_quiet hd (q_assign hx) h
theorem AW_store1 {j off : Nat} {st : TypeId} {x y : Operand} {t : TypeId} {bs r : List AC} {c : AC} (hty : TyI P st 1 false)
    (hx : ASt.ev ⟨tm, bx, nb⟩ x = some (.val (.one (.ptr j off)))) (hb : look bx j = some (t, bs)) (hy : ASt.ev ⟨tm, bx, nb⟩ y = some (.val (.one c))) (hr : layO bs off [c] = some r) (hk : c.keepable = true)
    (h : AW P n all draw ((.val (.one .any), .wr j off [c]) :: acc) ⟨tm, (j, t, r) :: bx, nb⟩ ops K) : AW P n all draw acc ⟨tm, bx, nb⟩ (⟨none, .store st x y, ty, pos, aft, none⟩ :: ops) K :=
  AW_store (cs := [c]) hty hx hb hy rfl rfl hr (by simp [hk]) h
theorem AW_extract {x : Operand} {l : List AV} {i : Nat} {v : AV} (hd : Nat.blt d n = true) (hx : ASt.ev ⟨tm, bx, nb⟩ x = some (.tup l)) (hi : l[i]? = some v) (h : AW P n all draw ((.val v, .no) :: acc) ⟨(d, .val v) :: tm, bx, nb⟩ ops K) : AW P n all draw acc ⟨tm, bx, nb⟩ (⟨some d, .extract x i, ty, pos, aft, none⟩ :: ops) K :=
  AW_quiet hd (q_extract hx hi) h
theorem AW_not {x : Operand} {xt : TypeId} {t : Bool} (hd : Nat.blt d n = true) (hx : ASt.ev ⟨tm, bx, nb⟩ x = some (.val (.one (.b t)))) (h : AW P n all draw ((.val (.one (.b (!t))), .no) :: acc) ⟨(d, .val (.one (.b (!t)))) :: tm, bx, nb⟩ ops K) : AW P n all draw acc ⟨tm, bx, nb⟩ (⟨some d, .unOp .not xt x, ty, pos, aft, none⟩ :: ops) K :=
  AW_quiet hd (q_not hx) h
theorem AW_build {bt : TypeId} {parts : Array (Nat × Operand)} {pl : List (Nat × Nat)} {zs r : List AC} (hd : Nat.blt d n = true) (hb : TyB P bt pl zs) (hr : abuild pl (ASt.ev ⟨tm, bx, nb⟩) zs parts.toList = some r) (h : AW P n all draw ((.val (.agg r), .no) :: acc) ⟨(d, .val (.agg r)) :: tm, bx, nb⟩ ops K) : AW P n all draw acc ⟨tm, bx, nb⟩ (⟨some d, .build bt parts, ty, pos, aft, none⟩ :: ops) K :=
  AW_quiet hd (q_build hb hr) h
theorem AW_field {x : Operand} {st : TypeId} {f off m : Nat} {row : Bool} {cs r : List AC} {v : AV} (hd : Nat.blt d n = true) (hf : TyF P st f off m row) (hx : ASt.ev ⟨tm, bx, nb⟩ x = some (.val (.agg cs))) (hr : rdO cs off m = some r) (hv : mkAV row r = v) (h : AW P n all draw ((.val v, .no) :: acc) ⟨(d, .val v) :: tm, bx, nb⟩ ops K) : AW P n all draw acc ⟨tm, bx, nb⟩ (⟨some d, .field st x f, ty, pos, aft, none⟩ :: ops) K :=
  AW_quiet hd (q_field hx hf hr hv) h
theorem AW_fieldAddr {x : Operand} {st : TypeId} {f off m j o o' : Nat} {row : Bool} (hd : Nat.blt d n = true) (hf : TyF P st f off m row) (hx : ASt.ev ⟨tm, bx, nb⟩ x = some (.val (.one (.ptr j o)))) (ho : o + off = o') (h : AW P n all draw ((.val (.one (.ptr j o')), .no) :: acc) ⟨(d, .val (.one (.ptr j o'))) :: tm, bx, nb⟩ ops K) : AW P n all draw acc ⟨tm, bx, nb⟩ (⟨some d, .fieldAddr st x f, ty, pos, aft, none⟩ :: ops) K :=
  AW_quiet hd (q_fieldAddr hx hf ho) h
theorem AW_fieldAddrg {jg gd : Nat} {b t : Bool} {x : Operand} {st : TypeId} {f off m j o o' : Nat} {row : Bool} (hgd : dstIn all jg = some gd) (ht : look tm gd = some (.val (.one (.b t)))) (hb : (t == b) = true) (hd : Nat.blt d n = true) (hf : TyF P st f off m row) (hx : ASt.ev ⟨tm, bx, nb⟩ x = some (.val (.one (.ptr j o)))) (ho : o + off = o')
    (h : AW P n all draw ((.val (.one (.ptr j o')), .no) :: acc) ⟨(d, .val (.one (.ptr j o'))) :: tm, bx, nb⟩ ops K) : AW P n all draw acc ⟨tm, bx, nb⟩ (⟨some d, .fieldAddr st x f, ty, pos, aft, some (jg, b)⟩ :: ops) K :=
  AW_quietg hgd ht hb hd (q_fieldAddr hx hf ho) h
theorem AW_arrayAt {x ix : Operand} {j o o' len sz : Nat} {k : IntKind} {m : Int} {at_ e : TypeId} (hd : Nat.blt d n = true) (hu : P.underlying at_ = some (.array len e)) (hs : (P.info? e).map (·.size) = some sz) (hx : ASt.ev ⟨tm, bx, nb⟩ x = some (.val (.one (.ptr j o)))) (hi : ASt.ev ⟨tm, bx, nb⟩ ix = some (.val (.one (.i k m)))) (h0 : decide (0 ≤ m ∧ m < (len : Int)) = true) (ho : o + m.toNat * sz = o')
    (h : AW P n all draw ((.val (.one (.ptr j o')), .no) :: acc) ⟨(d, .val (.one (.ptr j o'))) :: tm, bx, nb⟩ ops K) : AW P n all draw acc ⟨tm, bx, nb⟩ (⟨some d, .indexAddr at_ x ix, ty, pos, aft, none⟩ :: ops) K :=
  AW_quiet hd (q_arrayAt hx hi hu hs h0 ho) h
theorem AW_ints {st e : TypeId} {len : Nat} {parts : List (Nat × Operand)} {xs : List Raw} {ie : TypeInfo} {z : Value} (hd : Nat.blt d n = true) (hu : P.underlying st = some (.slice e)) (hi : P.info? e = some ie) (hs : ie.size = 2) (hz : ie.zero = some z) (hl : Nat.beq len parts.length = true) (hn : Nat.ble 1 len = true) (hn2 : Nat.ble len 1000 = true)
    (hp : EvInts (ASt.ev ⟨tm, bx, nb⟩) 0 parts xs) (h : AW P n all draw ((.val (.one (.st (polyP xs))), .no) :: acc) ⟨(d, .val (.one (.st (polyP xs)))) :: tm, bx, nb⟩ ops K) : AW P n all draw acc ⟨tm, bx, nb⟩ (⟨some d, .buildSlice st len parts.toArray, ty, pos, aft, none⟩ :: ops) K :=
  AW_quiet hd (q_ints hl hn hn2 hu hi hs hz hp) h
theorem AW_pickT {c x y : Operand} {v : AR} (hd : Nat.blt d n = true) (hc : ASt.ev ⟨tm, bx, nb⟩ c = some (.val (.one (.b true)))) (hx : ASt.ev ⟨tm, bx, nb⟩ x = some v) (h : AW P n all draw ((v, .no) :: acc) ⟨(d, v) :: tm, bx, nb⟩ ops K) : AW P n all draw acc ⟨tm, bx, nb⟩ (⟨some d, .pick c x y, ty, pos, aft, none⟩ :: ops) K :=
  AW_quiet hd (q_pickT hc hx) h
theorem AW_pickF {c x y : Operand} {v : AR} (hd : Nat.blt d n = true) (hc : ASt.ev ⟨tm, bx, nb⟩ c = some (.val (.one (.b false)))) (hx : ASt.ev ⟨tm, bx, nb⟩ y = some v) (h : AW P n all draw ((v, .no) :: acc) ⟨(d, v) :: tm, bx, nb⟩ ops K) : AW P n all draw acc ⟨tm, bx, nb⟩ (⟨some d, .pick c x y, ty, pos, aft, none⟩ :: ops) K :=
  AW_quiet hd (q_pickF hc hx) h
section
variable {jg gd : Nat} {b t : Bool} (hgd : dstIn all jg = some gd) (ht : look tm gd = some (.val (.one (.b t)))) (hb : (t == b) = true) (hd : Nat.blt d n = true)
include hgd ht hb hd
theorem AW_pickTg {c x y : Operand} {v : AR} (hc : ASt.ev ⟨tm, bx, nb⟩ c = some (.val (.one (.b true)))) (hx : ASt.ev ⟨tm, bx, nb⟩ x = some v) (h : AW P n all draw ((v, .no) :: acc) ⟨(d, v) :: tm, bx, nb⟩ ops K) : AW P n all draw acc ⟨tm, bx, nb⟩ (⟨some d, .pick c x y, ty, pos, aft, some (jg, b)⟩ :: ops) K :=
  AW_quietg hgd ht hb hd (q_pickT hc hx) h
theorem AW_pickFg {c x y : Operand} {v : AR} (hc : ASt.ev ⟨tm, bx, nb⟩ c = some (.val (.one (.b false)))) (hx : ASt.ev ⟨tm, bx, nb⟩ y = some v) (h : AW P n all draw ((v, .no) :: acc) ⟨(d, v) :: tm, bx, nb⟩ ops K) : AW P n all draw acc ⟨tm, bx, nb⟩ (⟨some d, .pick c x y, ty, pos, aft, some (jg, b)⟩ :: ops) K :=
  AW_quietg hgd ht hb hd (q_pickF hc hx) h
theorem AW_moveg {x : Operand} {v : AR} (hx : ASt.ev ⟨tm, bx, nb⟩ x = some v) (h : AW P n all draw ((v, .no) :: acc) ⟨(d, v) :: tm, bx, nb⟩ ops K) : AW P n all draw acc ⟨tm, bx, nb⟩ (⟨some d, .move x, ty, pos, aft, some (jg, b)⟩ :: ops) K :=
  AW_quietg hgd ht hb hd (q_move hx) h
theorem AW_notg {x : Operand} {xt : TypeId} {t' : Bool} (hx : ASt.ev ⟨tm, bx, nb⟩ x = some (.val (.one (.b t')))) (h : AW P n all draw ((.val (.one (.b (!t'))), .no) :: acc) ⟨(d, .val (.one (.b (!t')))) :: tm, bx, nb⟩ ops K) : AW P n all draw acc ⟨tm, bx, nb⟩ (⟨some d, .unOp .not xt x, ty, pos, aft, some (jg, b)⟩ :: ops) K :=
  AW_quietg hgd ht hb hd (q_not hx) h
theorem AW_eqg {x y : Operand} {xt yt : TypeId} {k : IntKind} {m m' : Int} (hx : ASt.ev ⟨tm, bx, nb⟩ x = some (.val (.one (.i k m)))) (hy : ASt.ev ⟨tm, bx, nb⟩ y = some (.val (.one (.i k m')))) (h : AW P n all draw ((.val (.one (.b (m == m'))), .no) :: acc) ⟨(d, .val (.one (.b (m == m')))) :: tm, bx, nb⟩ ops K) : AW P n all draw acc ⟨tm, bx, nb⟩ (⟨some d, .binOp .eql xt x y yt, ty, pos, aft, some (jg, b)⟩ :: ops) K :=
  AW_quietg hgd ht hb hd (q_eq hx hy) h
theorem AW_neg {x y : Operand} {xt yt : TypeId} {k : IntKind} {m m' : Int} (hx : ASt.ev ⟨tm, bx, nb⟩ x = some (.val (.one (.i k m)))) (hy : ASt.ev ⟨tm, bx, nb⟩ y = some (.val (.one (.i k m')))) (h : AW P n all draw ((.val (.one (.b (m != m'))), .no) :: acc) ⟨(d, .val (.one (.b (m != m')))) :: tm, bx, nb⟩ ops K) : AW P n all draw acc ⟨tm, bx, nb⟩ (⟨some d, .binOp .neq xt x y yt, ty, pos, aft, some (jg, b)⟩ :: ops) K :=
  AW_quietg hgd ht hb hd (q_ne hx hy) h
end
theorem q_bne {ev : Operand → Option AR} {dd : Option Nat} {x y : Operand} {xt yt : TypeId} {a c : Bool} {g : Option (Nat × Bool)} (hx : ev x = some (.val (.one (.b a)))) (hy : ev y = some (.val (.one (.b c)))) (hu : P.underlying xt = some .bool) : Quiet P ⟨dd, .binOp .neq xt x y yt, ty, pos, aft, g⟩ ev (.val (.one (.b (a != c)))) :=
  q_of2 hx hy (by simp [Op.operands]) (by simp [Op.operands]) fun G β w U ρ _ hk _ hk' => by
    have hk : ρ x = .bool a := hk
    have hk' : ρ y = .bool c := hk'
    have he : (Op.equal xt (.bool a) (.bool c)).run P w = .ok (a == c) w := by
      show (Op.equalIn (9999 + 1) xt (.bool a) (.bool c)).run P w = _
      unfold Op.equalIn
      rw [Sem.run_bind, run_underlying hu w]
      rfl
    exact ⟨.bool (a != c), by simp [execOp, eqGuard, binOp, hk, hk', he]; cases a <;> cases c <;> rfl, rfl, trivial⟩
/-- A pointer to a cell that is only read. -/
def slotP (p : Pred) : Pred where
  is := fun G w v => ∃ ad u, v = .pointer (some ad) ∧ ¬ G ad.block ∧ ad.block < w.heap.size ∧ w.cell? ad = some u ∧ p.is G w u
  cell := by
    rintro G w v ⟨ad, _, rfl, _⟩
    exact ⟨fun _ => by simp, rfl⟩
  stay := by
    rintro G w w' v ⟨ad, u, rfl, hG, hb, h1, h2⟩ m
    have h3 := p.stay h2 m
    obtain ⟨H, hH, e⟩ := m.ext
    have hblk : w'.heap[ad.block]? = w.heap[ad.block]? := e.block _ hb fun h => hG (hH _ h)
    exact ⟨ad, u, rfl, hG, Nat.lt_of_lt_of_le hb e.size, by rw [cell_of_block (w := w) hblk]; exact h1, h3⟩
  grow := by
    rintro G G' w v ⟨ad, u, rfl, hG, hb, h1, h2⟩ hg
    refine ⟨ad, u, rfl, fun h => ?_, hb, h1, p.grow h2 hg⟩
    rcases hg _ h with h | h
    · exact hG h
    · omega
/-- A contract serves what is known better. -/
def ArLe (r r' : AR) : Prop := ∀ (G : Nat → Prop) (β : Nat → Nat) (w : World) (v : Value), r.ok G β w v → r'.ok G β w v
theorem ArLe.refl (r : AR) : ArLe r r := fun _ _ _ _ h => h
def ArsLe : List AR → List AR → Prop
  | [], [] => True
  | a :: l, b :: l' => ArLe a b ∧ ArsLe l l'
  | _, _ => False
theorem oksR_le {G : Nat → Prop} {β : Nat → Nat} {w : World} : ∀ {a b : List AR} {vs : List Value}, ArsLe a b → oksR G β w a vs → oksR G β w b vs
  | [], [], [], _, _ => trivial
  | _ :: _, _ :: _, _ :: _, h, k => ⟨h.1 _ _ _ _ k.1, oksR_le h.2 k.2⟩
  | [], [], _ :: _, _, k => k.elim
  | _ :: _, _ :: _, [], _, k => k.elim
  | [], _ :: _, _, h, _ => h.elim
  | _ :: _, [], _, h, _ => h.elim
theorem Ct.weak {f : FuncId} {a b : List AR} {r : AR} (h : Ct P f b r) (hl : ArsLe a b) : Ct P f a r := ⟨h.enters, h.nop, fun G β w vals hG ha => h.calls G β w vals hG (oksR_le hl ha)⟩
section
variable {x y : Operand} {xt yt : TypeId} {k : IntKind} {m m' : Int} (hd : Nat.blt d n = true)
include hd
theorem AW_eq (hx : ASt.ev ⟨tm, bx, nb⟩ x = some (.val (.one (.i k m)))) (hy : ASt.ev ⟨tm, bx, nb⟩ y = some (.val (.one (.i k m')))) (h : AW P n all draw ((.val (.one (.b (m == m'))), .no) :: acc) ⟨(d, .val (.one (.b (m == m')))) :: tm, bx, nb⟩ ops K) : AW P n all draw acc ⟨tm, bx, nb⟩ (⟨some d, .binOp .eql xt x y yt, ty, pos, aft, none⟩ :: ops) K := AW_quiet hd (q_eq hx hy) h
theorem AW_ne (hx : ASt.ev ⟨tm, bx, nb⟩ x = some (.val (.one (.i k m)))) (hy : ASt.ev ⟨tm, bx, nb⟩ y = some (.val (.one (.i k m')))) (h : AW P n all draw ((.val (.one (.b (m != m'))), .no) :: acc) ⟨(d, .val (.one (.b (m != m')))) :: tm, bx, nb⟩ ops K) : AW P n all draw acc ⟨tm, bx, nb⟩ (⟨some d, .binOp .neq xt x y yt, ty, pos, aft, none⟩ :: ops) K := AW_quiet hd (q_ne hx hy) h
theorem AW_lt (hx : ASt.ev ⟨tm, bx, nb⟩ x = some (.val (.one (.i k m)))) (hy : ASt.ev ⟨tm, bx, nb⟩ y = some (.val (.one (.i k m')))) (h : AW P n all draw ((.val (.one (.b (decide (m < m')))), .no) :: acc) ⟨(d, .val (.one (.b (decide (m < m'))))) :: tm, bx, nb⟩ ops K) : AW P n all draw acc ⟨tm, bx, nb⟩ (⟨some d, .binOp .lss xt x y yt, ty, pos, aft, none⟩ :: ops) K := AW_quiet hd (q_lt hx hy) h
theorem AW_gt (hx : ASt.ev ⟨tm, bx, nb⟩ x = some (.val (.one (.i k m)))) (hy : ASt.ev ⟨tm, bx, nb⟩ y = some (.val (.one (.i k m')))) (h : AW P n all draw ((.val (.one (.b (decide (m' < m)))), .no) :: acc) ⟨(d, .val (.one (.b (decide (m' < m))))) :: tm, bx, nb⟩ ops K) : AW P n all draw acc ⟨tm, bx, nb⟩ (⟨some d, .binOp .gtr xt x y yt, ty, pos, aft, none⟩ :: ops) K := AW_quiet hd (q_gt hx hy) h
theorem AW_ge (hx : ASt.ev ⟨tm, bx, nb⟩ x = some (.val (.one (.i k m)))) (hy : ASt.ev ⟨tm, bx, nb⟩ y = some (.val (.one (.i k m')))) (h : AW P n all draw ((.val (.one (.b (decide (m' ≤ m)))), .no) :: acc) ⟨(d, .val (.one (.b (decide (m' ≤ m))))) :: tm, bx, nb⟩ ops K) : AW P n all draw acc ⟨tm, bx, nb⟩ (⟨some d, .binOp .geq xt x y yt, ty, pos, aft, none⟩ :: ops) K := AW_quiet hd (q_ge hx hy) h
end
theorem AW_len {x : Operand} {L : List Nat} {st e : TypeId} (hd : Nat.blt d n = true) (hx : ASt.ev ⟨tm, bx, nb⟩ x = some (.val (.one (.st (magP L))))) (hu : P.underlying st = some (.slice e)) (h : AW P n all draw ((.val (aI (L.length : Int)), .no) :: acc) ⟨(d, .val (aI (L.length : Int))) :: tm, bx, nb⟩ ops K) :
    AW P n all draw acc ⟨tm, bx, nb⟩ (⟨some d, .call { callee := .builtin .len, args := #[x], argTypes := #[st] }, ty, pos, aft, none⟩ :: ops) K := AW_quiet hd (q_len hx rfl hu) h
/-- A law's contract, as the statement asks it. -/
theorem law_ct {f : FuncId} {args : List AR} {w : World} {vals : List Value} (h : Ct P f args (.val (aB true))) (ha : oksR (fun _ => False) id w args vals) (hw : Gl w := by exact trivial) :
    Calls P f vals.toArray w fun e w' => e = .returned (.bool true) ∧ Below w.heap.size w w' :=
  (h.calls (fun _ => False) id w vals ⟨fun _ h => h.elim, hw⟩ ha).mono (by
    rintro e w' ⟨v, rfl, h1, h2⟩
    have h1 : v = .bool true := h1
    subst h1
    exact ⟨rfl, h2⟩)
end
end Go.Proofs.YtjbagikfogejnaaGreatDoor
/- An abstract machine: the program's types. -/
namespace Go.Proofs.YtjbagikfogejnaaGreatDoor
open Go.RowKit Go.Deep
theorem ty_bool : TyI Tryz.prog 4 1 false := tyI_one Tryz.underlying4 rfl (by kernel_rfl)
theorem ty_int : TyI Tryz.prog 3 1 false := tyI_one Tryz.underlying3 rfl (by kernel_rfl)
theorem ty_num : TyI Tryz.prog 24 2 true := tyI_row Tryz.underlying24 rfl (by kernel_rfl)
theorem oks_zero (G : Nat → Prop) (β : Nat → Nat) (w : World) : oks G β w [.b false, .st (magP [])] [.bool false, .slice none 0 0] := ⟨rfl, magP_nil G w, trivial⟩
theorem nop_all {cs : List AC} (h : cs.all AC.nop = true) : ∀ c ∈ cs, c.nop = true := List.all_eq_true.1 h
theorem plain_all {vs : List Value} (h : ∀ v ∈ vs, (∃ b, v = .bool b) ∨ v = .slice none 0 0) : ∀ v ∈ vs, NoLimb v ∧ v.oneCell' = true := by
  intro v hv
  rcases h v hv with ⟨b, rfl⟩ | rfl
  · exact ⟨noLimb_bool _, rfl⟩
  · exact ⟨noLimb_slice _ _ _, rfl⟩
theorem tz_num : TyZ Tryz.prog 24 [.b false, .st (magP [])] :=
  tyZ_of (i := (Tryz.prog.info? 24).getD default) (z := .agg #[.bool false, .slice none 0 0]) true [.bool false, .slice none 0 0] (by kernel_rfl) (by kernel_rfl) rfl (fun h => by cases h) (plain_all (by simp)) oks_zero (nop_all rfl)
theorem tb_num : TyB Tryz.prog 24 [(0, 1), (1, 1)] [.b false, .st (magP [])] :=
  tyB_struct (it := (Tryz.prog.info? 24).getD default) (z := .agg #[.bool false, .slice none 0 0]) [.bool false, .slice none 0 0] (by kernel_rfl) (by kernel_rfl) rfl Tryz.underlying24 (by kernel_rfl) oks_zero (nop_all rfl)
theorem tf_neg : TyF Tryz.prog 24 0 0 1 false := tyF_of false Tryz.underlying24 rfl rfl Tryz.underlying4 rfl (by kernel_rfl) (by decide) (fun _ => rfl)
theorem tf_mag : TyF Tryz.prog 24 1 1 1 false := tyF_of false Tryz.underlying24 rfl rfl Tryz.underlying22 rfl (by kernel_rfl) (by decide) (fun _ => rfl)
theorem tu_nums : Tryz.prog.underlying 35 = some (.slice 24) := by kernel_rfl
theorem ts_num : (Tryz.prog.info? 24).map (·.size) = some 2 := by kernel_rfl
theorem ti_num : Tryz.prog.info? 24 = some ((Tryz.prog.info? 24).getD default) := by kernel_rfl
theorem ti_size : ((Tryz.prog.info? 24).getD default).size = 2 := by kernel_rfl
theorem ti_zero : ((Tryz.prog.info? 24).getD default).zero = some (.agg #[.bool false, .slice none 0 0]) := by kernel_rfl
theorem ty_row : TyI Tryz.prog 108 6 true := tyI_row Tryz.underlying108 rfl (by kernel_rfl)
theorem ty_rows : TyI Tryz.prog 144 12 true := tyI_row Tryz.underlying144 rfl (by kernel_rfl)
def zcells : Nat → List Value
  | 0 => []
  | n + 1 => .bool false :: .slice none 0 0 :: zcells n
def zacs : Nat → List AC
  | 0 => []
  | n + 1 => .b false :: .st (magP []) :: zacs n
theorem oks_zeros (G : Nat → Prop) (β : Nat → Nat) (w : World) : ∀ n, oks G β w (zacs n) (zcells n)
  | 0 => trivial
  | n + 1 => ⟨rfl, magP_nil G w, oks_zeros G β w n⟩
theorem plain_zeros : ∀ n, ∀ v ∈ zcells n, NoLimb v ∧ v.oneCell' = true
  | 0, v, h => by cases h
  | n + 1, v, h => by
    simp only [zcells, List.mem_cons] at h
    rcases h with rfl | rfl | h
    · exact ⟨noLimb_bool _, rfl⟩
    · exact ⟨noLimb_slice _ _ _, rfl⟩
    · exact plain_zeros n v h
theorem tz_row : TyZ Tryz.prog 108 [.b false, .st (magP []), .b false, .st (magP []), .b false, .st (magP [])] :=
  tyZ_of (i := (Tryz.prog.info? 108).getD default) (z := .agg (zcells 3).toArray) true (zcells 3) (by kernel_rfl) (by kernel_rfl) rfl (fun h => by cases h) (plain_zeros 3) (fun G β w => oks_zeros G β w 3) (nop_all rfl)
theorem tz_rows : TyZ Tryz.prog 144 [.b false, .st (magP []), .b false, .st (magP []), .b false, .st (magP []), .b false, .st (magP []), .b false, .st (magP []), .b false, .st (magP [])] :=
  tyZ_of (i := (Tryz.prog.info? 144).getD default) (z := .agg (zcells 6).toArray) true (zcells 6) (by kernel_rfl) (by kernel_rfl) rfl (fun h => by cases h) (plain_zeros 6) (fun G β w => oks_zeros G β w 6) (nop_all rfl)
theorem tb_row : TyB Tryz.prog 108 [(0, 2), (2, 4)] [.b false, .st (magP []), .b false, .st (magP []), .b false, .st (magP [])] :=
  tyB_struct (it := (Tryz.prog.info? 108).getD default) (z := .agg (zcells 3).toArray) (zcells 3) (by kernel_rfl) (by kernel_rfl) rfl Tryz.underlying108 (by kernel_rfl) (fun G β w => oks_zeros G β w 3) (nop_all rfl)
theorem tb_rows : TyB Tryz.prog 144 [(0, 6), (6, 6)] [.b false, .st (magP []), .b false, .st (magP []), .b false, .st (magP []), .b false, .st (magP []), .b false, .st (magP []), .b false, .st (magP [])] :=
  tyB_array (it := (Tryz.prog.info? 144).getD default) (ie := (Tryz.prog.info? 108).getD default) (z := .agg (zcells 6).toArray) (zcells 6) (by kernel_rfl) (by kernel_rfl) rfl Tryz.underlying144 (by kernel_rfl)
    (fun i p h => by
      have e : ((Tryz.prog.info? 108).getD default).size = 6 := by kernel_rfl
      rw [e]
      rcases i with _ | _ | i
      · simp at h; exact h.symm
      · simp at h; exact h.symm
      · simp at h) (fun G β w => oks_zeros G β w 6) (nop_all rfl)
theorem tf_row0 : TyF Tryz.prog 108 0 0 2 true := tyF_of true Tryz.underlying108 rfl rfl Tryz.underlying24 rfl (by kernel_rfl) (by decide) (fun h => by cases h)
theorem tf_row1 : TyF Tryz.prog 108 1 2 4 true := tyF_of true Tryz.underlying108 rfl rfl Tryz.underlying106 rfl (by kernel_rfl) (by decide) (fun h => by cases h)
theorem ts_row : (Tryz.prog.info? 108).map (·.size) = some 6 := by kernel_rfl
theorem tm_mixed : Tryz.prog.follows .mixedOrders = true := by kernel_rfl
end Go.Proofs.YtjbagikfogejnaaGreatDoor
/- An abstract machine: rows that are handed back, lent, cut. -/
namespace Go.Proofs.YtjbagikfogejnaaGreatDoor
open Go.RowKit Go.Deep
/-- A slice of len elements with room for cap, that is only read: its block's cells. -/
def rowC (len cap : Nat) (cs : List AC) (hn : ∀ c ∈ cs, c.nop = true) : Pred where
  is := fun G w v => ∃ g vs, v = .slice (some ⟨g, 0, none⟩) len cap ∧ ¬ G g ∧ g < w.heap.size ∧ (∀ j u, vs[j]? = some u → w.cell? ⟨g, j, none⟩ = some u) ∧ ∀ β, oks G β w cs vs
  cell := by
    rintro G w v ⟨g, vs, rfl, _⟩
    exact ⟨noLimb_slice _ _ _, rfl⟩
  stay := by
    rintro G w w' v ⟨g, vs, rfl, hG, hg, hc, ho⟩ mv
    have mv' := mv
    obtain ⟨H, hH, e⟩ := mv.ext
    have hblk : w'.heap[g]? = w.heap[g]? := e.block _ hg fun h => hG (hH _ h)
    exact ⟨g, vs, rfl, hG, Nat.lt_of_lt_of_le hg e.size, fun j u hj => by rw [cell_of_block (w := w) (by exact hblk)]; exact hc j u hj,
      fun β => oks_step (U := fun _ => True) (fun _ _ => rfl) (fun _ h => .inl h) mv' (fun c hcm => AC.nop_low (hn c hcm) _) (ho β)⟩
  grow := by
    rintro G G' w v ⟨g, vs, rfl, hG, hg, hc, ho⟩ hgr
    refine ⟨g, vs, rfl, fun h => ?_, hg, hc, fun β => oks_step (U := fun _ => True) (fun _ _ => rfl) hgr (Mv.refl _ _) (fun c hcm => AC.nop_low (hn c hcm) _) (ho β)⟩
    rcases hgr _ h with h | h
    · exact hG h
    · omega
/-- A pointer into a row that is only read: the cells there. -/
def atP (cs : List AC) (hn : ∀ c ∈ cs, c.nop = true) : Pred where
  is := fun G w v => ∃ g o vs, v = .pointer (some ⟨g, o, none⟩) ∧ ¬ G g ∧ g < w.heap.size ∧ (∀ j u, vs[j]? = some u → w.cell? ⟨g, o + j, none⟩ = some u) ∧ ∀ β, oks G β w cs vs
  cell := by
    rintro G w v ⟨g, o, vs, rfl, _⟩
    exact ⟨fun _ => by simp, rfl⟩
  stay := by
    rintro G w w' v ⟨g, o, vs, rfl, hG, hg, hc, ho⟩ mv
    have mv' := mv
    obtain ⟨H, hH, e⟩ := mv.ext
    have hblk : w'.heap[g]? = w.heap[g]? := e.block _ hg fun h => hG (hH _ h)
    exact ⟨g, o, vs, rfl, hG, Nat.lt_of_lt_of_le hg e.size, fun j u hj => by rw [cell_of_block (w := w) (by exact hblk)]; exact hc j u hj,
      fun β => oks_step (U := fun _ => True) (fun _ _ => rfl) (fun _ h => .inl h) mv' (fun c hcm => AC.nop_low (hn c hcm) _) (ho β)⟩
  grow := by
    rintro G G' w v ⟨g, o, vs, rfl, hG, hg, hc, ho⟩ hgr
    refine ⟨g, o, vs, rfl, fun h => ?_, hg, hc, fun β => oks_step (U := fun _ => True) (fun _ _ => rfl) hgr (Mv.refl _ _) (fun c hcm => AC.nop_low (hn c hcm) _) (ho β)⟩
    rcases hgr _ h with h | h
    · exact hG h
    · omega
section
variable {P : Program} {d : Option Nat} {ty : TypeId} {pos : String} {aft : Array Edge} {ev : Operand → Option AR}
theorem q_atLoad {x : Operand} {cs : List AC} {hn : ∀ c ∈ cs, c.nop = true} {lt : TypeId} {m : Nat} {row : Bool} (hx : ev x = some (.val (.one (.st (atP cs hn))))) (hty : TyI P lt m row) (hl : cs.length = m) :
    Quiet P ⟨d, .load lt x, ty, pos, aft, none⟩ ev (.val (mkAV row cs)) :=
  q_of hx (by simp [Op.operands]) fun G β w U ρ _ hk => by
    obtain ⟨g, o, vs, he, hG, hg, hc, ho⟩ := hk
    have hlv := oks_len (ho β)
    have hld := hty.load w g o vs (fun j v hv => hc j v hv) (by omega)
    refine ⟨mkVal row vs, ?_, mkAV_ok (ho β) (fun e => by have := hty.one e; omega), mkAV_low fun c hc => AC.nop_low (hn c hc) _⟩
    unfold execOp
    simp only [he, Instr.loadAt, Instr.sureAddr, Sem.run_bind, Sem.run_pure, Result.andThen_ok, hld]
theorem q_conv {x : Operand} {k k' : IntKind} {m : Int} {src dst : TypeId} {ds : TypeDesc} (hx : ev x = some (.val (.one (.i k m)))) (hs : P.underlying src = some ds) (hd : P.underlying dst = some (.int k')) :
    Quiet P ⟨d, .convert src dst x, ty, pos, aft, none⟩ ev (.val (.one (.i k' (k'.wrap m)))) :=
  q_of hx (by simp [Op.operands]) fun G β w U ρ _ hk => by
    have hk : ρ x = .int k m := hk
    refine ⟨.int k' (k'.wrap m), ?_, rfl, trivial⟩
    have h1 : (convert src dst (.int k m)).run P w = .ok (.int k' (k'.wrap m)) w := by
      unfold convert
      rw [Sem.run_bind, run_underlying hs, Result.andThen_ok, Sem.run_bind, run_underlying hd, Result.andThen_ok]
      rfl
    unfold execOp
    simp only [hk, h1, Sem.run_bind, Result.andThen_ok, Sem.run_pure]
/-- Results, as they are wanted. -/
theorem q_addE {x y : Operand} {xt yt : TypeId} {k : IntKind} {m m' v : Int} (hx : ev x = some (.val (.one (.i k m)))) (hy : ev y = some (.val (.one (.i k m')))) (he : k.wrap (m + m') = v) : Quiet P ⟨d, .binOp .add xt x y yt, ty, pos, aft, none⟩ ev (.val (.one (.i k v))) := by
  subst he; exact q_add hx hy
theorem q_subE {x y : Operand} {xt yt : TypeId} {k : IntKind} {m m' v : Int} (hx : ev x = some (.val (.one (.i k m)))) (hy : ev y = some (.val (.one (.i k m')))) (he : k.wrap (m - m') = v) : Quiet P ⟨d, .binOp .sub xt x y yt, ty, pos, aft, none⟩ ev (.val (.one (.i k v))) := by
  subst he; exact q_sub hx hy
theorem q_ltE {x y : Operand} {xt yt : TypeId} {k : IntKind} {m m' : Int} {t : Bool} (hx : ev x = some (.val (.one (.i k m)))) (hy : ev y = some (.val (.one (.i k m')))) (he : decide (m < m') = t) : Quiet P ⟨d, .binOp .lss xt x y yt, ty, pos, aft, none⟩ ev (.val (.one (.b t))) := by
  subst he; exact q_lt hx hy
theorem q_leE {x y : Operand} {xt yt : TypeId} {k : IntKind} {m m' : Int} {t : Bool} (hx : ev x = some (.val (.one (.i k m)))) (hy : ev y = some (.val (.one (.i k m')))) (he : decide (m ≤ m') = t) : Quiet P ⟨d, .binOp .leq xt x y yt, ty, pos, aft, none⟩ ev (.val (.one (.b t))) := by
  subst he; exact q_le hx hy
theorem q_convE {x : Operand} {k k' : IntKind} {m v : Int} {src dst : TypeId} {ds : TypeDesc} (hx : ev x = some (.val (.one (.i k m)))) (hs : P.underlying src = some ds) (hd : P.underlying dst = some (.int k')) (he : k'.wrap m = v) :
    Quiet P ⟨d, .convert src dst x, ty, pos, aft, none⟩ ev (.val (.one (.i k' v))) := by
  subst he; exact q_conv hx hs hd
theorem oks_cells {G : Nat → Prop} {β : Nat → Nat} {w : World} {cs : List AC} {v : Value} (h : (AV.agg cs).ok G β w v) : oks G β w cs v.cells.toList := by
  obtain ⟨vs, rfl, h⟩ := h
  simpa [Value.cells] using h
/-- A slice of one record. -/
theorem q_row1 {x : Operand} {cs : List AC} (hn : ∀ c ∈ cs, c.nop = true) {st e : TypeId} {ie : TypeInfo} {z : Value} (hx : ev x = some (.val (.agg cs))) (hu : P.underlying st = some (.slice e)) (hi : P.info? e = some ie) (hs : ie.size = cs.length) (hz : ie.zero = some z) (h0 : cs.length ≠ 0) (h1 : cs.length ≤ 1000) :
    Quiet P ⟨d, .buildSlice st 1 #[(0, x)], ty, pos, aft, none⟩ ev (.val (.one (.st (rowP 1 cs hn)))) := by
  intro G β w U ρ hG _ hρ
  obtain ⟨_, hk⟩ := hρ x _ (by simp [Op.operands]) hx
  have hcs := oks_cells hk
  have hsz := oks_len hcs
  have hsz' : (ρ x).cells.size = ie.size := by rw [hs, hsz]; simp
  have hfill := Great.fill_whole (s := ie.size) (by omega) [ρ x] ((Array.range (1 * ie.size)).map (z.cells[· % z.cells.size]!)) (by simpa using hsz') (by simp)
  have hrun : (Instr.buildSlice st 1 (#[(0, x)].map fun ((i, x) : Nat × Operand) => (i, ρ x))).run P w = .ok (.slice (some ⟨w.heap.size, 0, none⟩) 1 1) (w.alloc (.cells ([ρ x].flatMap fun (v : Value) => v.cells.toList).toArray e)) :=
    run_buildSlice (P := P) w st e 1 _ _ ie z hu hi hz (by omega) (by omega) (by simpa using hfill)
  have hbel : Below w.heap.size w (w.alloc (.cells ([ρ x].flatMap fun v => v.cells.toList).toArray e)) := (Below.refl _ _).alloc (Nat.le_refl _) _
  refine ⟨_, _, ?_, hbel, ⟨w.heap.size, 1, (ρ x).cells.toList, rfl, fun h => ?_, by simp, fun j u hj => ?_, fun β2 => ?_⟩, trivial⟩
  · unfold execOp
    simp only [Sem.run_bind, hrun, Result.andThen_ok, Sem.run_pure]
  · have := hG _ h
    omega
  · rw [cell_of_row _ _ j _ _ (0, 0) (heap_alloc_new w _)]
    simpa using hj
  · exact oks_step (U := fun _ => False) (fun _ h => h.elim) (fun _ h => .inl h) (Mv.of_below hbel) (fun c hc => AC.nop_low (hn c hc) _) hcs
end
/-- A slice of one limb. -/
theorem q_limb1 {d : Option Nat} {ty : TypeId} {pos : String} {aft : Array Edge} {ev : Operand → Option AR} {x : Operand} {m : Nat} (hx : ev x = some (.val (.one (.i .u64 (m : Int))))) (hm : m < W64) :
    Quiet Tryz.prog ⟨d, .buildSlice 22 1 #[(0, x)], ty, pos, aft, none⟩ ev (.val (.one (.st (magP [m])))) := by
  intro G β w U ρ hG _ hρ
  obtain ⟨_, hk⟩ := hρ x _ (by simp [Op.operands]) hx
  have hk : ρ x = .int .u64 (m : Int) := hk
  obtain ⟨i0, hi, hz0, hz1, hz2⟩ := info_parts info_u64
  have hrun : (Instr.buildSlice 22 1 (#[(0, x)].map fun ((i, x) : Nat × Operand) => (i, ρ x))).run Tryz.prog w = .ok (.slice (some ⟨w.heap.size, 0, none⟩) 1 1) (w.alloc (.cells #[.int .u64 (m : Int)] 41)) :=
    run_buildSlice (P := Tryz.prog) w 22 41 1 _ _ i0 (.int .u64 0) Tryz.underlying22 hi hz0 (by rw [hz1]; omega) (by rw [hz1]; omega) (by
      have hfill := Great.fill_whole (s := 1) (by omega) [ρ x] ((Array.range (1 * i0.size)).map ((Value.int .u64 0).cells[· % (Value.int .u64 0).cells.size]!)) (by simp [hk, Value.cells]) (by simp [hz1])
      rw [hz1]
      simpa [hk, Value.cells, hz1] using hfill)
  have hbel : Below w.heap.size w (w.alloc (.cells #[.int .u64 (m : Int)] 41)) := (Below.refl _ _).alloc (Nat.le_refl _) _
  have hlim := Lim.lit w m hm
  refine ⟨_, _, ?_, hbel, ⟨_, 1, 1, rfl, rfl, Nat.le_refl _, by
    have e : (w.alloc (.cells #[.int .u64 (m : Int)] 41)).heap.size = w.heap.size + 1 := by simp
    rw [e]; exact hlim⟩, trivial⟩
  unfold execOp
  simp only [Sem.run_bind, hrun, Result.andThen_ok, Sem.run_pure]
/-! ### records' cells -/
def numCs : List Raw → List AC
  | [] => []
  | x :: xs => .b x.1 :: .st (magP x.2) :: numCs xs
theorem numCs_length : ∀ xs, (numCs xs).length = 2 * xs.length
  | [] => rfl
  | x :: xs => by simp [numCs, numCs_length xs]; omega
theorem numCs_nop : ∀ xs, ∀ c ∈ numCs xs, c.nop = true
  | [], c, h => by cases h
  | x :: xs, c, h => by
    simp only [numCs, List.mem_cons] at h
    rcases h with rfl | rfl | h
    · rfl
    · rfl
    · exact numCs_nop xs c h
def zero2 (n : Nat) : List Raw := List.replicate n (false, [])
theorem info_num : (Tryz.prog.info? 24).map (fun i => (i.zero, i.size, i.bytes)) = some (some (.agg #[.bool false, .slice none 0 0]), 2, 32) := by kernel_rfl
end Go.Proofs.YtjbagikfogejnaaGreatDoor
/- An abstract machine: limbs that are read one by one, shifts, bits. -/
namespace Go.Proofs.YtjbagikfogejnaaGreatDoor
open Go.RowKit Go.Deep
/-- A pointer to the k-th limb. -/
def limbP (L : List Nat) (k : Nat) : Pred where
  is := fun _ w v => ∃ ad, v = .pointer (some (ad.add k)) ∧ k < L.length ∧ Lim w w.heap.size (some ad) L
  cell := by
    rintro G w v ⟨ad, rfl, _⟩
    exact ⟨fun _ => by simp, rfl⟩
  stay := by
    rintro G w w' v ⟨ad, rfl, hk, hlim⟩ m
    obtain ⟨H, _, e⟩ := m.ext
    exact ⟨ad, rfl, hk, (hlim.ext (Nat.le_refl _) e).more e.size⟩
  grow := by
    rintro G G' w v h _
    exact h
section
variable {P : Program} {d : Option Nat} {ty : TypeId} {pos : String} {aft : Array Edge} {ev : Operand → Option AR}
theorem q_limbAt {x ix : Operand} {L : List Nat} {k : Nat} {kk : IntKind} {st e : TypeId} (hx : ev x = some (.val (.one (.st (magP L))))) (hi : ev ix = some (.val (.one (.i kk (k : Int))))) (hk : k < L.length) (hu : P.underlying st = some (.slice e)) (hs : (P.info? e).map (·.size) = some 1) :
    Quiet P ⟨d, .indexAddr st x ix, ty, pos, aft, none⟩ ev (.val (.one (.st (limbP L k)))) :=
  q_of2 hx hi (by simp [Op.operands]) (by simp [Op.operands]) fun G β w U ρ _ hv _ hk' => by
    obtain ⟨A, l, c, he, hl, hc, hlim⟩ := hv
    have hk' : ρ ix = .int kk (k : Int) := hk'
    obtain ⟨ad, rfl, _, _⟩ := hlim.at_ hk
    subst hl
    refine ⟨.pointer (some (ad.add k)), ?_, ⟨ad, rfl, hk, hlim⟩, trivial⟩
    cases hq : P.info? e with
    | none => simp [hq] at hs
    | some i =>
      have hsz : i.size = 1 := by simpa [hq] using hs
      simp [execOp, Instr.indexAt, he, hk', asIntOf, run_underlying hu, sizeOf, typeInfo, hq, hsz, hk]
theorem q_limbLoad {x : Operand} {L : List Nat} {k n : Nat} {lt : TypeId} (hx : ev x = some (.val (.one (.st (limbP L k))))) (hty : TyI P lt 1 false) (hn : L[k]? = some n) : Quiet P ⟨d, .load lt x, ty, pos, aft, none⟩ ev (.val (.one (.i .u64 (n : Int)))) :=
  q_of hx (by simp [Op.operands]) fun G β w U ρ _ hv => by
    obtain ⟨ad, he, hk, hlim⟩ := hv
    obtain ⟨ad', e, _, hc⟩ := hlim.at_ hk
    cases e
    have hn' : L.getD k 0 = n := by simp [List.getD_eq_getElem?_getD, hn]
    rw [hn'] at hc
    have hl := hty.loadA w (ad.add k) [.int .u64 (n : Int)] (fun j v hv => by
      rcases j with _ | j
      · simp at hv; subst hv
        have hz : (ad.add k).add 0 = ad.add k := by generalize ad.add k = p; unfold Addr.add; rw [if_pos rfl]
        rw [hz]; exact hc
      · simp at hv) rfl
    refine ⟨.int .u64 (n : Int), ?_, rfl, trivial⟩
    unfold execOp
    simp only [he, Instr.loadAt, Instr.sureAddr, Sem.run_bind, Sem.run_pure, Result.andThen_ok, hl]
    rfl
/-- A shift to the right. -/
theorem q_shr {x y : Operand} {xt yt : TypeId} {k kk : IntKind} {m s v : Nat} (hx : ev x = some (.val (.one (.i k (m : Int))))) (hy : ev y = some (.val (.one (.i kk (s : Int))))) (hs : s ≤ k.bits) (hv : m / 2 ^ s = v) : Quiet P ⟨d, .binOp .shr xt x y yt, ty, pos, aft, none⟩ ev (.val (.one (.i k (v : Int)))) :=
  q_of2 hx hy (by simp [Op.operands]) (by simp [Op.operands]) fun G β w U ρ _ hk _ hk' => by
    subst hv
    have hk : ρ x = .int k (m : Int) := hk
    have hk' : ρ y = .int kk (s : Int) := hk'
    refine ⟨.int k ((m / 2 ^ s : Nat) : Int), ?_, rfl, trivial⟩
    have e : (m : Int).fdiv (2 ^ min (s : Int).toNat k.bits) = ((m / 2 ^ s : Nat) : Int) := by
      rw [Int.toNat_natCast, Nat.min_eq_left hs, Int.fdiv_eq_ediv_of_nonneg _ (Int.le_of_lt (Int.pow_pos (by decide)))]
      simp
    have h0 : ¬ (s : Int) < 0 := by omega
    simp [execOp, eqGuard, binOp, Op.shift, hk, hk', h0]
    simpa using e
theorem and_low (m b : Nat) : m &&& (2 ^ b - 1) = m % 2 ^ b := Nat.and_two_pow_sub_one_eq_mod m b
/-- The lowest bits. -/
theorem q_andLow {x y : Operand} {xt yt : TypeId} {m v : Nat} (b : Nat) (hx : ev x = some (.val (.one (.i .u64 (m : Int))))) (hy : ev y = some (.val (.one (.i .u64 ((2 ^ b - 1 : Nat) : Int))))) (hb : b ≤ 64) (hm : m < 2 ^ 64) (hv : m % 2 ^ b = v) :
    Quiet P ⟨d, .binOp .and xt x y yt, ty, pos, aft, none⟩ ev (.val (.one (.i .u64 (v : Int)))) :=
  q_of2 hx hy (by simp [Op.operands]) (by simp [Op.operands]) fun G β w U ρ _ hk _ hk' => by
    subst hv
    have hk : ρ x = .int .u64 (m : Int) := hk
    have hk' : ρ y = .int .u64 ((2 ^ b - 1 : Nat) : Int) := hk'
    refine ⟨.int .u64 ((m % 2 ^ b : Nat) : Int), ?_, rfl, trivial⟩
    have hp : 2 ^ b ≤ 2 ^ 64 := Nat.pow_le_pow_right (by decide) hb
    have hp0 : 0 < 2 ^ b := Nat.pow_pos (by decide)
    have hlt : m % 2 ^ b < 2 ^ 64 := Nat.lt_of_lt_of_le (Nat.mod_lt _ hp0) hp
    have e1 : (BitVec.ofInt 64 (m : Int) &&& BitVec.ofInt 64 ((2 ^ b - 1 : Nat) : Int)).toNat = m % 2 ^ b := by
      rw [BitVec.toNat_and, BitVec.ofInt_natCast, BitVec.ofInt_natCast, BitVec.toNat_ofNat, BitVec.toNat_ofNat, Nat.mod_eq_of_lt hm, Nat.mod_eq_of_lt (by omega), and_low]
    have e2 : IntKind.u64.wrap ((m % 2 ^ b : Nat) : Int) = ((m % 2 ^ b : Nat) : Int) := by
      rw [IntKind.wrap_u64]
      have h : m % 2 ^ b < 18446744073709551616 := hlt
      generalize m % 2 ^ b = v at h
      omega
    have hrun : (binOp .and xt (.int .u64 (m : Int)) (.int .u64 ((2 ^ b - 1 : Nat) : Int))).run P w = .ok (.int .u64 ((m % 2 ^ b : Nat) : Int)) w := by
      show (Op.intBits .and .u64 (m : Int) ((2 ^ b - 1 : Nat) : Int)).run P w = _
      show (pure (Value.int .u64 (IntKind.u64.wrap ((BitVec.ofInt 64 (m : Int) &&& BitVec.ofInt 64 ((2 ^ b - 1 : Nat) : Int)).toNat : Int))) : Sem Value).run P w = _
      rw [e1, e2]
      rfl
    unfold execOp
    have hg : (eqGuard BinOp.and xt x y (Value.int IntKind.u64 (m : Int)) (Value.int IntKind.u64 ((2 ^ b - 1 : Nat) : Int))).run P w = .ok () w := rfl
    simp only [hk, hk', Sem.run_bind, hg, hrun, Result.andThen_ok, Sem.run_pure]
end
theorem ty_limb : TyI Tryz.prog 41 1 false := tyI_one Tryz.underlying41 rfl (by kernel_rfl)
theorem ts_limb : (Tryz.prog.info? 41).map (·.size) = some 1 := by kernel_rfl
end Go.Proofs.YtjbagikfogejnaaGreatDoor
/- An abstract machine: lists of whole numbers of the machine; the lesser and the greater of two. -/
namespace Go.Proofs.YtjbagikfogejnaaGreatDoor
open Go.RowKit Go.Deep
/-- A slice of numbers of the machine. -/
def intsP (xs : List Int) : Pred where
  is := fun G w v => ∃ A n c, v = .slice A n c ∧ n = xs.length ∧ n ≤ c ∧ Nums w w.heap.size A xs ∧ (0 < xs.length → ∀ ad, A = some ad → ¬ G ad.block)
  cell := by
    rintro G w v ⟨A, l, c, rfl, _⟩
    exact ⟨noLimb_slice _ _ _, rfl⟩
  stay := by
    rintro G w w' v ⟨A, l, c, rfl, hl, hc, hp, hG⟩ m
    obtain ⟨H, hH, e⟩ := m.ext
    refine ⟨A, l, c, rfl, hl, hc, ⟨fun hn => ?_⟩, hG⟩
    obtain ⟨ad, ha, hb, hcs⟩ := hp.cells hn
    have hblk : w'.heap[ad.block]? = w.heap[ad.block]? := e.block _ hb fun h => hG hn ad ha (hH _ h)
    exact ⟨ad, ha, Nat.lt_of_lt_of_le hb e.size, fun j hj => by rw [cell_of_block (w := w) (by rw [block_of_add]; exact hblk)]; exact hcs j hj⟩
  grow := by
    rintro G G' w v ⟨A, l, c, rfl, hl, hc, hp, hG⟩ hg
    refine ⟨A, l, c, rfl, hl, hc, hp, fun hn ad ha h => ?_⟩
    obtain ⟨ad', ha', hb, _⟩ := hp.cells hn
    rw [ha] at ha'
    cases ha'
    rcases hg _ h with h | h
    · exact hG hn ad ha h
    · omega
/-- A pointer to a number of the machine that is only read. -/
def intP (x : Int) : Pred where
  is := fun G w v => ∃ ad, v = .pointer (some ad) ∧ ¬ G ad.block ∧ ad.block < w.heap.size ∧ w.cell? ad = some (.int .i64 x)
  cell := by
    rintro G w v ⟨ad, rfl, _⟩
    exact ⟨fun _ => by simp, rfl⟩
  stay := by
    rintro G w w' v ⟨ad, rfl, hG, hb, h1⟩ m
    obtain ⟨H, hH, e⟩ := m.ext
    have hblk : w'.heap[ad.block]? = w.heap[ad.block]? := e.block _ hb fun h => hG (hH _ h)
    exact ⟨ad, rfl, hG, Nat.lt_of_lt_of_le hb e.size, by rw [cell_of_block (w := w) hblk]; exact h1⟩
  grow := by
    rintro G G' w v ⟨ad, rfl, hG, hb, h1⟩ hg
    refine ⟨ad, rfl, fun h => ?_, hb, h1⟩
    rcases hg _ h with h | h
    · exact hG h
    · omega
section
variable {P : Program} {d : Option Nat} {ty : TypeId} {pos : String} {aft : Array Edge} {ev : Operand → Option AR}
theorem q_intAt {x ix : Operand} {xs : List Int} {k : Nat} {st e : TypeId} {r : Int} (hx : ev x = some (.val (.one (.st (intsP xs))))) (hi : ev ix = some (.val (aI (k : Int)))) (hr : xs[k]? = some r) (hu : P.underlying st = some (.slice e)) (hs : (P.info? e).map (·.size) = some 1) :
    Quiet P ⟨d, .indexAddr st x ix, ty, pos, aft, none⟩ ev (.val (.one (.st (intP r)))) :=
  q_of2 hx hi (by simp [Op.operands]) (by simp [Op.operands]) fun G β w U ρ _ hk _ hk' => by
    obtain ⟨A, n, c, he, hn, hc, hp, hG⟩ := hk
    have hk' : ρ ix = .int .i64 (k : Int) := hk'
    have hkl : k < xs.length := (List.getElem?_eq_some_iff.1 hr).1
    obtain ⟨ad, ha, hb, h1⟩ := hp.at_ hkl
    have hr' : xs.getD k 0 = r := by simp [List.getD_eq_getElem?_getD, hr]
    rw [hr'] at h1
    subst ha hn
    refine ⟨.pointer (some (ad.add k)), ?_, ⟨ad.add k, rfl, ?_, ?_, h1⟩, trivial⟩
    · cases hq : P.info? e with
      | none => simp [hq] at hs
      | some i =>
        have hsz : i.size = 1 := by simpa [hq] using hs
        simp [execOp, Instr.indexAt, he, hk', asIntOf, run_underlying hu, sizeOf, typeInfo, hq, hsz, hkl]
    · rw [block_of_add]; exact hG (by omega) ad rfl
    · rw [block_of_add]; exact hb
theorem q_intLoad {x : Operand} {r : Int} {lt : TypeId} (hx : ev x = some (.val (.one (.st (intP r))))) (hty : TyI P lt 1 false) : Quiet P ⟨d, .load lt x, ty, pos, aft, none⟩ ev (.val (aI r)) :=
  q_of hx (by simp [Op.operands]) fun G β w U ρ _ hk => by
    obtain ⟨ad, he, hG, hb, h1⟩ := hk
    have hl := hty.loadA w ad [.int .i64 r] (fun j v hv => by
      rcases j with _ | j
      · simp at hv; subst hv
        have hz : ad.add 0 = ad := by unfold Addr.add; rw [if_pos rfl]
        rw [hz]; exact h1
      · simp at hv) rfl
    refine ⟨.int .i64 r, ?_, rfl, trivial⟩
    unfold execOp
    simp only [he, Instr.loadAt, Instr.sureAddr, Sem.run_bind, Sem.run_pure, Result.andThen_ok, hl]
    rfl
theorem q_lenInts {x : Operand} {xs : List Int} {ats : Array TypeId} {st e : TypeId} (hx : ev x = some (.val (.one (.st (intsP xs))))) (ha : ats[0]? = some st) (hu : P.underlying st = some (.slice e)) :
    Quiet P ⟨d, .call { callee := .builtin .len, args := #[x], argTypes := ats }, ty, pos, aft, none⟩ ev (.val (aI (xs.length : Int))) :=
  q_of hx (by simp [Op.operands, Call.operands]) fun G β w U ρ _ hk => by
    obtain ⟨A, l, c, he, hl, hc, _⟩ := hk
    subst hl
    refine ⟨.int .i64 (xs.length : Int), ?_, rfl, trivial⟩
    simp [execOp, resolve, invoke, builtin, Builtin.len_, he, ha, run_underlying hu]
    rfl
/-- append([]uint64(nil), limbs...) -/
theorem q_copyLimbs {d : Option Nat} {ty : TypeId} {pos : String} {aft : Array Edge} {ev : Operand → Option AR} {x y : Operand} {L : List Nat} (hx : x = .const (.slice none 0 0)) (hy : ev y = some (.val (.one (.st (magP L))))) (hl : L.length ≤ 17592186044416) :
    Quiet Tryz.prog ⟨d, .call { callee := .builtin .append, args := #[x, y], argTypes := #[22, 22] }, ty, pos, aft, none⟩ ev (.val (.one (.st (magP L)))) := by
  intro G β w U ρ hG hcst hρ
  subst hx
  obtain ⟨_, hk⟩ := hρ y _ (by simp [Op.operands, Call.operands]) hy
  obtain ⟨A, l, c, he, hll, hc, hlim⟩ := hk
  subst hll
  obtain ⟨i0, hi, hz0, hz1, hz2⟩ := info_parts info_u64
  have hnil := World.ownsRow_nil w w.heap.size 41 1
  have hfin : ∃ v' w', (Builtin.append_ #[22, 22] ty #[.slice none 0 0, .slice A L.length c]).run Tryz.prog w = .ok v' w' ∧ Below w.heap.size w w' ∧ (magP L).is G w' v' := by
    cases A with
    | none =>
      have hy : L = [] := by
        rcases Nat.eq_zero_or_pos L.length with h0 | h0
        · exact List.eq_nil_of_length_eq_zero h0
        · obtain ⟨ad, e, _⟩ := hlim.cells h0
          cases e
      subst hy
      exact ⟨_, _, run_append_of_nil w w.heap.size 22 ty 41 i0 1 Tryz.underlying22 hi _ 0 [] hnil c, Below.refl _ _, magP_nil G w⟩
    | some ad =>
      obtain ⟨v', w', h1, h2, h3, _⟩ := run_append_own (P := Tryz.prog) w w.heap.size 22 ty 41 i0 (.int .u64 0) 1 8 Tryz.underlying22 hi hz0 hz1 hz2 rfl (by omega) (.slice none 0 0) 0 [] hnil ad L.length c (nums L) (by simp [nums]) (fun j u hu => by
          have hj : j < L.length := by
            have := (List.getElem?_eq_some_iff.1 hu).1
            simpa [nums] using this
          obtain ⟨ad', e, _, hc⟩ := hlim.at_ hj
          cases e
          rw [hc, ← hu]
          simp [nums, hj]) (fun u hu => by obtain ⟨y, _, rfl⟩ := List.mem_map.1 hu; rfl) (by simp only [maxLen]; omega) (by omega) (Nat.le_refl _)
      have ho : Own w' w.heap.size v' L := ⟨hlim.small, by simpa using h2⟩
      obtain ⟨A', c', e, hc', hl', _⟩ := ho.form
      exact ⟨v', w', h1, (Below.refl _ _).grown h3 (Nat.le_refl _) (fun k hk => by simp [Value.ownBlock] at hk), ⟨A', _, c', e, rfl, hc', hl'⟩⟩
  obtain ⟨v', w', h1, h2, h3⟩ := hfin
  refine ⟨v', w', ?_, h2, h3, trivial⟩
  have hcn : ρ (.const (.slice none 0 0)) = .slice none 0 0 := hcst _
  unfold execOp
  simp only [resolve, invoke, builtin, Sem.run_bind, Sem.run_pure, Result.andThen_ok, List.map_toArray, List.map_cons, List.map_nil, hcn, he, h1]
end
end Go.Proofs.YtjbagikfogejnaaGreatDoor
/- An abstract machine: a list behind a full list. -/
namespace Go.Proofs.YtjbagikfogejnaaGreatDoor
open Go.RowKit Go.Deep
theorem oks_num {G : Nat → Prop} {β : Nat → Nat} {w : World} : ∀ {xs : List Raw} {vs : List Value}, oks G β w (numCs xs) vs → ∀ (k : Nat) (x : Raw), xs[k]? = some x → ∃ A l c, vs[2 * k]? = some (.bool x.1) ∧ vs[2 * k + 1]? = some (.slice A l c) ∧ l = x.2.length ∧ l ≤ c ∧ Lim w w.heap.size A x.2
  | [], _, _, k, x, hx => by simp at hx
  | y :: ys, [], h, _, _, _ => h.elim
  | y :: ys, [_], h, _, _, _ => h.2.elim
  | y :: ys, a :: b :: vs, h, 0, x, hx => by
    simp at hx
    subst hx
    obtain ⟨h1, ⟨A, l, c, h2, h3, h4, h5⟩, _⟩ := h
    have h1 : a = .bool y.1 := h1
    exact ⟨A, l, c, by simp [h1], by simp [h2], h3, h4, h5⟩
  | y :: ys, a :: b :: vs, h, k + 1, x, hx => by
    obtain ⟨A, l, c, h1, h2, h3⟩ := oks_num h.2.2 k x (by simpa using hx)
    exact ⟨A, l, c, by rw [show 2 * (k + 1) = 2 * k + 1 + 1 by omega]; simpa using h1, by rw [show 2 * (k + 1) + 1 = 2 * k + 1 + 1 + 1 by omega]; simpa using h2, h3⟩
theorem add_next (ad : Addr) (k : Nat) : (⟨(ad.add k).block, (ad.add k).off + 1, none⟩ : Addr) = ad.add (k + 1) := by
  unfold Addr.add
  rw [if_neg (show ¬ k + 1 = 0 by omega)]
  split
  · rename_i h; subst h; rfl
  · rfl
theorem q_appPoly {d : Option Nat} {ty : TypeId} {pos : String} {aft : Array Edge} {ev : Operand → Option AR} {x y : Operand} {xs ys : List Raw} {n : Nat} {hn : ∀ c ∈ numCs xs, c.nop = true} (hnx : n = xs.length) (h0 : 0 < n) (hx : ev x = some (.val (.one (.st (rowC n n (numCs xs) hn))))) (hy : ev y = some (.val (.one (.st (polyP ys))))) (hl : xs.length + ys.length ≤ 100000) :
    Quiet Tryz.prog ⟨d, .call { callee := .builtin .append, args := #[x, y], argTypes := #[35, 35] }, ty, pos, aft, none⟩ ev (.val (.one (.st (polyP (xs ++ ys))))) := by
  intro G β w U ρ hG hcst hρ
  obtain ⟨_, hkx⟩ := hρ x _ (by simp [Op.operands, Call.operands]) hx
  obtain ⟨_, hky⟩ := hρ y _ (by simp [Op.operands, Call.operands]) hy
  obtain ⟨g, vs, hex, hGg, hg, hcx, hox⟩ := hkx
  obtain ⟨A, m, c, hey, hm, hmc, hp, hGy⟩ := hky
  obtain ⟨i0, hi, hz0, hz1, hz2⟩ := info_parts info_num
  have hlen := oks_len (hox β)
  rw [numCs_length] at hlen
  subst hnx hm
  have hfin : ∃ v' w', (Builtin.append_ #[35, 35] ty #[.slice (some ⟨g, 0, none⟩) xs.length xs.length, .slice A ys.length c]).run Tryz.prog w = .ok v' w' ∧ Below w.heap.size w w' ∧ (polyP (xs ++ ys)).is G w' v' := by
    rcases Nat.eq_zero_or_pos ys.length with hy0 | hy0
    · have hyn : ys = [] := List.eq_nil_of_length_eq_zero hy0
      subst hyn
      refine ⟨.slice (some ⟨g, 0, none⟩) xs.length xs.length, w, ?_, Below.refl _ _, ⟨_, _, _, rfl, by simp, Nat.le_refl _, ⟨fun _ => ⟨⟨g, 0, none⟩, rfl, hg, fun j hj => ?_⟩⟩, fun _ ad e => by cases e; exact hGg⟩⟩
      · cases A with
        | none => simp [Builtin.append_, run_underlying tu_nums, sizeOf, typeInfo, hi, Builtin.lenOf, Builtin.firstCells, storeCells]
        | some ad => simp [Builtin.append_, run_underlying tu_nums, sizeOf, typeInfo, hi, Builtin.lenOf, Builtin.firstCells, storeCells, loadCells, loadCellsFrom]
      · have hj' : j < xs.length := by simpa using hj
        obtain ⟨Am, l, cc, h1, h2, h3, h4, h5⟩ := oks_num (hox β) j xs[j] (List.getElem?_eq_getElem hj')
        have e : (xs ++ ([] : List Raw)).getD j (false, []) = xs[j] := by simp [hj']
        rw [e, add_plain]
        refine ⟨Am, l, cc, ?_, ?_, h3, h4, h5⟩
        · rw [Nat.mul_comm]; exact hcx _ _ h1
        · show w.cell? ⟨g, j * 2 + 1, none⟩ = _
          rw [Nat.mul_comm]; exact hcx _ _ h2
    · obtain ⟨ad, rfl, hb, hcs⟩ := hp.cells hy0
      obtain ⟨news, hnw⟩ : ∃ news : List Value, (List.range (ys.length * 2)).map (fun k => (w.cell? (ad.add k)).getD undef) = news := ⟨_, rfl⟩
      have hnl : news.length = ys.length * 2 := by rw [← hnw]; simp
      have hget : ∀ k, k < ys.length * 2 → news[k]? = some ((w.cell? (ad.add k)).getD undef) := fun k hk => by rw [← hnw]; simp [hk]
      have hcell : ∀ j, j < ys.length → ∃ Am l cc, w.cell? (ad.add (j * 2)) = some (.bool (ys.getD j (false, [])).1) ∧ w.cell? (ad.add (j * 2 + 1)) = some (.slice Am l cc) ∧ l = (ys.getD j (false, [])).2.length ∧ l ≤ cc ∧ Lim w w.heap.size Am (ys.getD j (false, [])).2 := by
        intro j hj
        obtain ⟨Am, l, cc, h1, h2, h3⟩ := hcs j hj
        rw [add_next] at h2
        exact ⟨Am, l, cc, h1, h2, h3⟩
      have hnews : ∀ k u, news[k]? = some u → w.cell? (ad.add k) = some u := by
        intro k u hu
        have hk : k < ys.length * 2 := by have := (List.getElem?_eq_some_iff.1 hu).1; omega
        rw [hget k hk] at hu
        obtain ⟨Am, l, cc, h1, h2, _⟩ := hcell (k / 2) (by omega)
        have hk2 : k = k / 2 * 2 ∨ k = k / 2 * 2 + 1 := by omega
        rcases hk2 with e | e
        · rw [← e] at h1; rw [h1] at hu ⊢; exact hu
        · rw [← e] at h2; rw [h2] at hu ⊢; exact hu
      have hr := run_append_grow (P := Tryz.prog) w 35 ty 24 i0 _ tu_nums hi hz0 ⟨g, 0, none⟩ xs.length xs.length vs (by rw [hz1]; omega) (fun j u hu => by rw [add_plain]; exact hcx j u hu) ad ys.length c news (by rw [hz1]; exact hnl) hnews (by omega) (by omega) (growslice_fits (by omega) (by rw [hz2]; omega))
      refine ⟨_, _, hr, (Below.refl _ _).grown (row := none) ⟨rfl, rfl, rfl, by simp, fun k hk _ => heap_alloc_old w.drew _ hk⟩ (Nat.le_refl _) (by simp), ⟨_, _, _, rfl, by simp, grownCap_ge _ _ _ _, ⟨fun _ => ⟨⟨w.heap.size, 0, none⟩, rfl, by simp, fun j hj => ?_⟩⟩, fun _ ad e => by cases e; intro h; have := hG _ h; simp at this⟩⟩
      obtain ⟨W, hW⟩ : ∃ W, w.drew.alloc (.cells (vs.toArray ++ news.toArray ++ Builtin.zeroCells (Value.agg #[.bool false, .slice none 0 0]).cells (grownCap w (xs.length + ys.length) xs.length 24 - (xs.length + ys.length))) 24) = W := ⟨_, rfl⟩
      rw [hW]
      have hbel : Below w.heap.size w W := by rw [← hW]; exact (Below.refl _ _).grown (row := none) ⟨rfl, rfl, rfl, by simp, fun k hk _ => heap_alloc_old w.drew _ hk⟩ (Nat.le_refl _) (by simp)
      have hat : ∀ k, k < xs.length * 2 + ys.length * 2 → W.cell? ⟨w.heap.size, k, none⟩ = (vs ++ news)[k]? := by
        intro k hk
        have hh : W.heap[w.heap.size]? = some (.cells (vs.toArray ++ news.toArray ++ Builtin.zeroCells (Value.agg #[.bool false, .slice none 0 0]).cells (grownCap w (xs.length + ys.length) xs.length 24 - (xs.length + ys.length))) 24 (0, 0)) := by rw [← hW]; exact heap_alloc_new w.drew _
        rw [cell_of_row _ _ k _ _ (0, 0) hh]
        rw [Array.getElem?_append_left (by simp; omega)]
        simp
      have hj' : j < xs.length + ys.length := by simpa using hj
      rw [add_plain]
      by_cases hjx : j < xs.length
      · obtain ⟨Am, l, cc, h1, h2, h3, h4, h5⟩ := oks_num (hox β) j xs[j] (List.getElem?_eq_getElem hjx)
        have e : (xs ++ ys).getD j (false, []) = xs[j] := by simp [List.getElem?_append_left, hjx]
        rw [e]
        refine ⟨Am, l, cc, ?_, ?_, h3, h4, h5.call (Nat.le_refl _) hbel⟩
        · rw [hat _ (by omega), List.getElem?_append_left (by omega), Nat.mul_comm]; exact h1
        · show W.cell? ⟨w.heap.size, j * 2 + 1, none⟩ = _
          rw [hat _ (by omega), List.getElem?_append_left (by omega), Nat.mul_comm]; exact h2
      · obtain ⟨i, rfl⟩ : ∃ i, j = xs.length + i := ⟨j - xs.length, by omega⟩
        obtain ⟨Am, l, cc, h1, h2, h3, h4, h5⟩ := hcell i (by omega)
        have e : (xs ++ ys).getD (xs.length + i) (false, []) = ys.getD i (false, []) := by rw [List.getD_eq_getElem?_getD, List.getD_eq_getElem?_getD, List.getElem?_append_right (by omega), Nat.add_sub_cancel_left]
        rw [e]
        refine ⟨Am, l, cc, ?_, ?_, h3, h4, h5.call (Nat.le_refl _) hbel⟩
        · rw [hat _ (by omega), List.getElem?_append_right (by omega), show (xs.length + i) * 2 - vs.length = i * 2 by omega, hget _ (by omega), h1]; rfl
        · show W.cell? ⟨w.heap.size, (xs.length + i) * 2 + 1, none⟩ = _
          rw [hat _ (by omega), List.getElem?_append_right (by omega), show (xs.length + i) * 2 + 1 - vs.length = i * 2 + 1 by omega, hget _ (by omega), h2]; rfl
  obtain ⟨v', w', h1, h2, h3⟩ := hfin
  refine ⟨v', w', ?_, h2, h3, trivial⟩
  unfold execOp
  simp only [resolve, invoke, builtin, Sem.run_bind, Sem.run_pure, Result.andThen_ok, List.map_toArray, List.map_cons, List.map_nil, hex, hey, h1]
end Go.Proofs.YtjbagikfogejnaaGreatDoor
/- An abstract machine: boxes that are only read from here on; function values with what they hold. -/
namespace Go.Proofs.YtjbagikfogejnaaGreatDoor
open Go.RowKit Go.Deep
/-- An own box is handed on: from here on it is only read. -/
theorem le_pubp {s : ASt} {t j : Nat} {bt : TypeId} {cs : List AC} {tm : List (Nat × AR)} {bx : List (Nat × TypeId × List AC)} {nb : Nat} (hn : ∀ c ∈ cs, c.nop = true) (h : look s.tm t = some (.val (.one (.ptr j 0)))) (hb : look s.bx j = some (bt, cs))
    (ht : LeT s.tm tm) (hbx : LeT s.bx bx) (hj : look bx j = none) (hl : ASt.lowB ⟨tm, bx, nb⟩ = true) : Le s ⟨(t, .val (.one (.st (atP cs hn)))) :: tm, bx, nb⟩ := by
  rintro n G0 w0 a w ⟨β, h'⟩
  simp only [ASt.lowB, Bool.and_eq_true] at hl
  have hsub : ∀ k, (look bx k).isSome = true → (look s.bx k).isSome = true := by
    intro k hk
    obtain ⟨p, hp⟩ := Option.isSome_iff_exists.1 hk
    rw [leT_get hbx k p hp]; rfl
  have hG : ∀ g, Gs G0 (look bx) β g → Gs G0 s.f.bx β g ∨ w.heap.size ≤ g := by
    rintro g (hg | ⟨k, hk, e⟩)
    · exact .inl (.inl hg)
    · exact .inl (.inr ⟨k, hsub k hk, e⟩)
  have hm : Mv (Gs G0 (look bx) β) w w := Mv.refl _ _
  have hnot : ¬ Gs G0 (look bx) β (β j) := by
    rintro (hg | ⟨k, hk, e⟩)
    · have h1 := (h'.new j (show (look s.bx j).isSome = true by rw [hb]; rfl)).1
      have h2 := h'.low.1 _ hg
      omega
    · have := h'.inj k j (hsub k hk) (show (look s.bx j).isSome = true by rw [hb]; rfl) e
      subst this
      rw [hj] at hk
      cases hk
  refine ⟨β, h'.size, h'.defers, fun t' r htr => ?_, fun k t cs hk => ?_, fun k k' hk hk' => h'.inj k k' (hsub k hk) (hsub k' hk'), fun k hk => ⟨(h'.new k (hsub k hk)).1, ?_⟩, h'.since, h'.low⟩
  · have htr : look ((t, AR.val (.one (.st (atP cs hn)))) :: tm) t' = some r := htr
    rw [look_cons] at htr
    split at htr
    · rename_i e
      cases htr
      subst e
      obtain ⟨_, h2⟩ := h'.tms t _ h
      have h2 : a.tmps.getD t undef = .pointer (some ⟨β j, 0, none⟩) := h2
      obtain ⟨_, vs, hbox, _, hok⟩ := h'.bxs j bt cs hb
      exact ⟨trivial, β j, 0, vs, h2, hnot, hbox.lt, fun k u hk => by rw [Nat.zero_add]; exact hbox.at _ hk, fun β2 => oks_step (U := fun _ => False) (fun _ h => h.elim) hG hm (fun c hc => AC.nop_low (hn c hc) _) hok⟩
    · obtain ⟨h1, h2⟩ := h'.tms t' r (leT_get ht t' r htr)
      exact ⟨AR.low_of (List.all_eq_true.1 hl.1 _ (look_mem htr)), AR.ok_step (U := s.f.us) (fun _ _ => rfl) hG hm h1 h2⟩
  · obtain ⟨h1, vs, h2, h3, h4⟩ := h'.bxs k t cs (leT_get hbx k (t, cs) hk)
    have h5 := List.all_eq_true.1 hl.2 _ (look_mem hk)
    simp only [Bool.and_eq_true] at h5
    exact ⟨fun c hc => AC.low_of (List.all_eq_true.1 h5.2 c hc), vs, h2, h3, oks_step (U := s.f.us) (fun _ _ => rfl) hG hm h1 h4⟩
  · obtain ⟨p, hp⟩ := Option.isSome_iff_exists.1 hk
    have h5 := List.all_eq_true.1 hl.2 _ (look_mem hp)
    simp only [Bool.and_eq_true] at h5
    have h6 : k < nb := by simpa [Nat.blt_eq] using h5.1
    exact h6
def preds (ps : List Pred) : List AC := ps.map AC.st
theorem preds_nop (ps : List Pred) : ∀ c ∈ preds ps, c.nop = true := by
  intro c h
  obtain ⟨p, _, rfl⟩ := List.mem_map.1 h
  rfl
/-- A function value that holds what is only read. -/
def cloP (f : FuncId) (ps : List Pred) : Pred where
  is := fun G w v => ∃ vs : List Value, v = .func (.func f) #[] vs.toArray ∧ ∀ β, oks G β w (preds ps) vs
  cell := by
    rintro G w v ⟨vs, rfl, _⟩
    exact ⟨fun _ => by simp, rfl⟩
  stay := by
    rintro G w w' v ⟨vs, rfl, ho⟩ m
    exact ⟨vs, rfl, fun β => oks_step (U := fun _ => True) (fun _ _ => rfl) (fun _ h => .inl h) m (fun c hc => AC.nop_low (preds_nop ps c hc) _) (ho β)⟩
  grow := by
    rintro G G' w v ⟨vs, rfl, ho⟩ hg
    exact ⟨vs, rfl, fun β => oks_step (U := fun _ => True) (fun _ _ => rfl) hg (Mv.refl _ _) (fun c hc => AC.nop_low (preds_nop ps c hc) _) (ho β)⟩
def evP (ev : Operand → Option AR) : List Operand → List Pred → Prop
  | [], [] => True
  | x :: xs, p :: ps => ev x = some (.val (.one (.st p))) ∧ evP ev xs ps
  | [], _ :: _ => False
  | _ :: _, [] => False
theorem oks_evP {G : Nat → Prop} {β : Nat → Nat} {w : World} {ρ : Operand → Value} {ev : Operand → Option AR} : ∀ {xs : List Operand} {ps : List Pred}, evP ev xs ps → (∀ x r, x ∈ xs → ev x = some r → r.ok G β w (ρ x)) → ∀ β2, oks G β2 w (preds ps) (xs.map ρ)
  | [], [], _, _, _ => trivial
  | x :: xs, p :: ps, h, hρ, β2 => ⟨hρ x _ (by simp) h.1, oks_evP h.2 (fun y r hy => hρ y r (by simp [hy])) β2⟩
  | [], _ :: _, h, _, _ => h.elim
  | _ :: _, [], h, _, _ => h.elim
theorem q_mkFunc {P : Program} {d : Option Nat} {ty : TypeId} {pos : String} {aft : Array Edge} {ev : Operand → Option AR} {f : FuncId} {xs : List Operand} {ps : List Pred} (h : evP ev xs ps) :
    Quiet P ⟨d, .makeFunc (.func f) #[] xs.toArray, ty, pos, aft, none⟩ ev (.val (.one (.st (cloP f ps)))) := by
  intro G β w U ρ hG hcst hρ
  have ho := oks_evP (ρ := ρ) (G := G) (β := β) (w := w) h (fun x r hx hr => (hρ x r (by simp [Op.operands, hx]) hr).2)
  refine ⟨.func (.func f) #[] (xs.map ρ).toArray, w, ?_, Below.refl _ _, ⟨xs.map ρ, rfl, ho⟩, trivial⟩
  simp [execOp, Instr.makeFunc]
theorem clo_is {f : FuncId} {ps : List Pred} : ∀ G w v, (cloP f ps).is G w v → ∃ vs : List Value, v = .func (.func f) #[] vs.toArray ∧ ∀ β, oksR G β w (ps.map fun p => AR.val (.one (.st p))) vs := by
  rintro G w v ⟨vs, rfl, ho⟩
  refine ⟨vs, rfl, fun β => ?_⟩
  have key : ∀ (ps : List Pred) (vs : List Value), oks G β w (preds ps) vs → oksR G β w (ps.map fun p => AR.val (.one (.st p))) vs := by
    intro ps
    induction ps with
    | nil => intro vs h; cases vs with
      | nil => trivial
      | cons v vs => exact h.elim
    | cons p ps ih => intro vs h; cases vs with
      | nil => exact h.elim
      | cons v vs => exact ⟨h.1, ih vs h.2⟩
  exact key ps vs (ho β)
end Go.Proofs.YtjbagikfogejnaaGreatDoor
/- An abstract machine: a literal list, as a full row. -/
namespace Go.Proofs.YtjbagikfogejnaaGreatDoor
open Go.RowKit Go.Deep
theorem oks_nums {G : Nat → Prop} {β : Nat → Nat} {w : World} {ρ : Operand → Value} {ev : Operand → Option AR} : ∀ {ops : List Operand} {xs : List Raw}, (∀ x ∈ ops, ∀ r, ev x = some r → r.ok G β w (ρ x)) → evs ev ops = some (xs.map aNum) →
    oks G β w (numCs xs) ((ops.map ρ).flatMap fun v => v.cells.toList) ∧ (∀ v ∈ ops.map ρ, v.cells.size = 2) ∧ ops.length = xs.length
  | [], [], _, _ => ⟨trivial, fun v h => by simp at h, rfl⟩
  | [], _ :: _, _, h => by simp [evs] at h
  | o :: ops, xs, ho, h => by
    simp only [evs] at h
    cases h1 : ev o with
    | none => simp [h1] at h
    | some r =>
      cases h2 : evs ev ops with
      | none => simp [h1, h2] at h
      | some rs =>
        cases xs with
        | nil => simp [h1, h2] at h
        | cons x xs =>
          simp only [h1, h2, Option.some.injEq, List.map_cons, List.cons.injEq] at h
          obtain ⟨rfl, rfl⟩ := h
          obtain ⟨g1, g2, g3⟩ := oks_nums (xs := xs) (fun y hy => ho y (by simp [hy])) h2
          have hc := oks_cells (ho o (by simp) _ h1)
          have hl := oks_len hc
          refine ⟨?_, fun v hv => ?_, by simp [g3]⟩
          · rw [List.map_cons, List.flatMap_cons]
            exact oks_app (cs := [.b x.1, .st (magP x.2)]) hc g1
          · rw [List.map_cons, List.mem_cons] at hv
            rcases hv with rfl | hv
            · simpa using hl.symm
            · exact g2 v hv
theorem q_buildFull {P : Program} {d : Option Nat} {ty : TypeId} {pos : String} {aft : Array Edge} {ev : Operand → Option AR} {st e : TypeId} {len : Nat} {parts : List (Nat × Operand)} {xs : List Raw} {ie : TypeInfo} {z : Value} (hl : Nat.beq len parts.length = true) (hn : Nat.ble 1 len = true) (hn2 : Nat.ble len 1000 = true)
    (hu : P.underlying st = some (.slice e)) (hi : P.info? e = some ie) (hs : ie.size = 2) (hz : ie.zero = some z) (h : EvInts ev 0 parts xs) :
    Quiet P ⟨d, .buildSlice st len parts.toArray, ty, pos, aft, none⟩ ev (.val (.one (.st (rowC len len (numCs xs) (numCs_nop xs))))) := by
  obtain ⟨hp, ha, h3⟩ := evInts_ops h
  intro G β w U ρ hG _ hρ
  have hn := Nat.le_of_ble_eq_true hn
  have hn2 := Nat.le_of_ble_eq_true hn2
  have hl := Nat.eq_of_beq_eq_true hl
  obtain ⟨ho, hsz, hlen⟩ := oks_nums (ρ := ρ) (G := G) (β := β) (w := w) (fun x hx r hr => (hρ x r (by simpa [Op.operands] using hx) hr).2) ha
  have hparts : (parts.toArray.map fun ((i, x) : Nat × Operand) => (i, ρ x)).toList = (((parts.map (·.2)).map ρ).zipIdx 0).map fun x => (x.2, x.1) := by
    rw [Array.toList_map, ← numbered_map ρ 0 (parts.map (·.2)), ← hp]
  have hfill := Great.fill_whole (s := 2) (by omega) ((parts.map (·.2)).map ρ) ((Array.range (len * 2)).map (z.cells[· % z.cells.size]!)) hsz (by simp [hl])
  have hrun := run_buildSlice (P := P) w st e len (parts.toArray.map fun ((i, x) : Nat × Operand) => (i, ρ x)) _ ie z hu hi hz (by rw [hs]; omega) (by rw [hs]; omega) (by rw [hs, hparts]; exact hfill)
  have hbel : Below w.heap.size w (w.alloc (.cells (((parts.map (·.2)).map ρ).flatMap fun v => v.cells.toList).toArray e)) := (Below.refl _ _).alloc (Nat.le_refl _) _
  refine ⟨_, _, ?_, hbel, ⟨w.heap.size, _, rfl, fun h => by have := hG _ h; omega, by simp, fun j u hj => ?_, fun β2 => oks_step (U := fun _ => False) (fun _ h => h.elim) (fun _ h => .inl h) (Mv.of_below hbel) (fun c hc => AC.nop_low (numCs_nop xs c hc) _) ho⟩, trivial⟩
  · unfold execOp
    simp only [Sem.run_bind, hrun, Result.andThen_ok, Sem.run_pure]
  · rw [cell_of_row _ _ j _ _ (0, 0) (heap_alloc_new w _)]
    simpa using hj
end Go.Proofs.YtjbagikfogejnaaGreatDoor
/- An abstract machine: quotients, rests, products as they are wanted. -/
namespace Go.Proofs.YtjbagikfogejnaaGreatDoor
open Go.RowKit Go.Deep
section
variable {P : Program} {d : Option Nat} {ty : TypeId} {pos : String} {aft : Array Edge} {ev : Operand → Option AR} {x y : Operand} {xt yt : TypeId} {k : IntKind} {m c v : Int}
theorem q_divE (hx : ev x = some (.val (.one (.i k m)))) (hy : ev y = some (.val (.one (.i k c)))) (hc : c ≠ 0) (he : k.wrap (m.tdiv c) = v) : Quiet P ⟨d, .binOp .quo xt x y yt, ty, pos, aft, none⟩ ev (.val (.one (.i k v))) :=
  q_of2 hx hy (by simp [Op.operands]) (by simp [Op.operands]) fun G β w U ρ _ hk _ hk' => by
    subst he
    have hk : ρ x = .int k m := hk
    have hk' : ρ y = .int k c := hk'
    exact ⟨.int k (k.wrap (m.tdiv c)), by simp [execOp, eqGuard, binOp, Op.intDiv, hk, hk', hc], rfl, trivial⟩
theorem q_remE (hx : ev x = some (.val (.one (.i k m)))) (hy : ev y = some (.val (.one (.i k c)))) (hc : c ≠ 0) (he : m.tmod c = v) : Quiet P ⟨d, .binOp .rem xt x y yt, ty, pos, aft, none⟩ ev (.val (.one (.i k v))) :=
  q_of2 hx hy (by simp [Op.operands]) (by simp [Op.operands]) fun G β w U ρ _ hk _ hk' => by
    subst he
    have hk : ρ x = .int k m := hk
    have hk' : ρ y = .int k c := hk'
    exact ⟨.int k (m.tmod c), by simp [execOp, eqGuard, binOp, Op.intDiv, hk, hk', hc], rfl, trivial⟩
theorem q_mulE (hx : ev x = some (.val (.one (.i k m)))) (hy : ev y = some (.val (.one (.i k c)))) (he : k.wrap (m * c) = v) : Quiet P ⟨d, .binOp .mul xt x y yt, ty, pos, aft, none⟩ ev (.val (.one (.i k v))) := by
  subst he; exact q_mul hx hy
theorem q_eqE {t : Bool} (hx : ev x = some (.val (.one (.i k m)))) (hy : ev y = some (.val (.one (.i k c)))) (he : (m == c) = t) : Quiet P ⟨d, .binOp .eql xt x y yt, ty, pos, aft, none⟩ ev (.val (.one (.b t))) := by
  subst he; exact q_eq hx hy
theorem q_neE {t : Bool} (hx : ev x = some (.val (.one (.i k m)))) (hy : ev y = some (.val (.one (.i k c)))) (he : (m != c) = t) : Quiet P ⟨d, .binOp .neq xt x y yt, ty, pos, aft, none⟩ ev (.val (.one (.b t))) := by
  subst he; exact q_ne hx hy
theorem q_gtE {t : Bool} (hx : ev x = some (.val (.one (.i k m)))) (hy : ev y = some (.val (.one (.i k c)))) (he : decide (c < m) = t) : Quiet P ⟨d, .binOp .gtr xt x y yt, ty, pos, aft, none⟩ ev (.val (.one (.b t))) := by
  subst he; exact q_gt hx hy
theorem q_negE (hx : ev x = some (.val (.one (.i k m)))) (he : k.wrap (0 - m) = v) : Quiet P ⟨d, .unOp .neg xt x, ty, pos, aft, none⟩ ev (.val (.one (.i k v))) := by
  subst he; exact q_neg hx
end
theorem wrap_i64_in {n : Int} (h1 : -9223372036854775808 ≤ n) (h2 : n < 9223372036854775808) : IntKind.i64.wrap n = n := by
  rw [IntKind.wrap_i64]; omega
end Go.Proofs.YtjbagikfogejnaaGreatDoor
/- The package gcd: size, zero. -/
namespace Go.Proofs.YtjbagikfogejnaaGreatDoor
open Go.RowKit Go.Deep
set_option maxRecDepth 100000 in
theorem gcd_size (v : Value) (x : Raw) (w : World) (hv : RawV w v x) (hl : x.2.length ≤ 1099511627776) :
    Calls Tryz.prog 108 #[v] w fun e w' => ∃ u, e = .returned u ∧ RawAt w' w.heap.size u (false, x.2) ∧ Below w.heap.size w w' := by
  obtain ⟨b1, A1, l1, c1, rfl, HV⟩ := hv.open
  have HP := Lib.hid HV.out.parts
  have HLE := Lib.hid (show ([] : List Nat).length + x.2.length ≤ 17592186044416 by simp; omega)
  clear hv hl
  go_enter Tryz.func108, Tryz.ntmps108
  go_upto_region 1 with (fail)
  obtain ⟨W0, g, r, hW, hg, hr, bx, br, G_g, S_W0, hb⟩ := boxH2 w (.bool b1) (.slice A1 l1 c1) (.bool false) (.slice none 0 0)
  rw [hW, hr, hg]
  replace HV := Lib.hid (HV.out.stay hb)
  have B_W0 := Lib.hid (show Since w W0 from hb)
  clear hW hg hr hb
  have a0 := bx.out.cell0
  have a1 := bx.out.cell1
  go_wp2_with (at_builtin; refine append_lim (w0 := W0) W0.heap.size rfl _ _ rfl _ [] A1 l1 c1 x.2 (by rfl) (by rfl) HP.out.2.1 HV.out.parts.2.2.2 (Own.nil _ _) (Below.refl _ _) (Nat.le_refl _) HLE.out fun v1 w1 hown hbel _ _ => ?_; obtain ⟨A2, c2, hv, hc, hlim, _⟩ := hown.form; rw [List.nil_append] at hv hc hlim; subst hv; have HN := Lib.hid (show RawAt w1 W0.heap.size (.agg #[.bool false, .slice A2 x.2.length c2]) (false, x.2) from ⟨A2, _, c2, rfl, rfl, hc, hlim, hown.fresh⟩); replace br := Lib.hid (br.out.stay hbel); replace B_W0 := Lib.hid (show Since w w1 from B_W0.out.trans (hbel.mono B_W0.out.size)); clear hown hc hlim hbel a0 a1; have k0 := br.out.cell0; have k1 := br.out.cell1; have fr := br.out.free)
  refine bodyPost_ret (results_cell_row rfl _ _ r 24 #[.bool false, (.slice A2 x.2.length c2)] (0, 0) _ (by rfl) br.out.store Tryz.underlying24 rfl (by kernel_rfl)) rfl ?_
  obtain ⟨W2, hW2, br', p⟩ := br.out.write (.bool false) (.slice A2 x.2.length c2)
  rw [hW2]
  exact ⟨_, rfl, (HN.out.put p).since (by have := G_g.out; have := S_W0.out; omega), B_W0.out.put p (by have := G_g.out; omega)⟩
set_option maxRecDepth 100000 in
theorem gcd_zero (v : Value) (x : Raw) (w : World) (hv : RawV w v x) :
    Calls Tryz.prog 106 #[v] w fun e w' => e = .returned (.bool (decide (x.2.length = 0))) ∧ Below w.heap.size w w' := by
  obtain ⟨b1, A1, l1, c1, rfl, HV⟩ := hv.open
  have HP := Lib.hid HV.out.parts
  clear hv
  go_enter Tryz.func106, Tryz.ntmps106
  go_wp2_with fail
  obtain ⟨W0, g, hW, hg, bx, G_g, S_W0, hb⟩ := boxH w (.bool b1) (.slice A1 l1 c1)
  rw [hW, hg]
  replace HV := Lib.hid (HV.out.stay hb)
  have B_W0 := Lib.hid (show Since w W0 from hb)
  clear hW hg hb
  have a0 := bx.out.cell0
  have a1 := bx.out.cell1
  go_wp2_with fail
  go_ret
  refine ⟨?_, G_g.out ▸ B_W0.out⟩
  rw [← HP.out.2.1]
  by_cases h : l1 = 0
  · subst h; rfl
  · rw [decide_eq_false h, ← (show ((l1 : Int) == 0) = false from beq_eq_false_iff_ne.2 (by omega))]; rfl
end Go.Proofs.YtjbagikfogejnaaGreatDoor
/- Long division, plain: a guess of a quotient's limb, from three limbs and two. -/
namespace Go.Proofs.YtjbagikfogejnaaGreatDoor
/-- What a guess is: not too small, and not much too great. -/
structure Guess (hi lo next top below g : Nat) : Prop where
  lt : g < W64
  ge : ∀ t, t < W64 → t * (top * W64 + below) ≤ (hi * W64 + lo) * W64 + next → t ≤ g
  le : g * top ≤ hi * W64 + lo ∨ top ≤ hi
/-- The state of the loop that makes it less. -/
structure Guessing (hi lo next top below q r : Nat) : Prop where
  lt : q < W64
  sum : q * top + r = hi * W64 + lo
  ge : ∀ t, t < W64 → t * (top * W64 + below) ≤ (hi * W64 + lo) * W64 + next → t ≤ q
theorem Guess.most {hi lo next top below : Nat} (h : top ≤ hi) : Guess hi lo next top below (W64 - 1) :=
  ⟨by have := W64_pos; omega, fun t ht _ => by omega, .inr h⟩
theorem alg_guess (W t top below r next q : Nat) (h : q * below = r * W + next + 1 + t) : q * (top * W + below) = (q * top + r) * W + next + 1 + t := by
  rw [Nat.mul_add, h, Nat.add_mul, ← Nat.mul_assoc]; omega
theorem Guessing.start {hi lo next top below : Nat} (ht : 0 < top) (hh : hi < top) (hl : lo < W64) (hn : next < W64) : Guessing hi lo next top below ((hi * W64 + lo) / top) ((hi * W64 + lo) % top) := by
  refine ⟨?_, ?_, fun t _ h => ?_⟩
  · rw [Nat.div_lt_iff_lt_mul ht]
    have := Nat.mul_le_mul_right W64 (show hi + 1 ≤ top from hh)
    rw [Nat.add_mul, Nat.one_mul] at this
    rw [Nat.mul_comm W64 top]; omega
  · rw [Nat.mul_comm]; exact Nat.div_add_mod _ _
  · refine (Nat.le_div_iff_mul_le ht).2 ?_
    rcases Nat.lt_or_ge (hi * W64 + lo) (t * top) with h1 | h1
    · exfalso
      have h2 := Nat.mul_le_mul_right W64 (show hi * W64 + lo + 1 ≤ t * top from h1)
      rw [Nat.add_mul _ 1, Nat.one_mul] at h2
      rw [Nat.mul_add, ← Nat.mul_assoc] at h
      omega
    · exact h1
theorem Guessing.stop {hi lo next top below q r : Nat} (h : Guessing hi lo next top below q r) : Guess hi lo next top below q :=
  ⟨h.lt, h.ge, .inl (by have := h.sum; omega)⟩
theorem Guessing.less {hi lo next top below q r : Nat} (h : Guessing hi lo next top below q r) (hb : r * W64 + next < q * below) : 1 ≤ q ∧ Guessing hi lo next top below (q - 1) (r + top) := by
  have hq : 1 ≤ q := by
    rcases Nat.eq_zero_or_pos q with h0 | h0
    · rw [h0, Nat.zero_mul] at hb; omega
    · exact h0
  obtain ⟨p, rfl⟩ : ∃ p, q = p + 1 := ⟨q - 1, by omega⟩
  have hs := h.sum
  have hl := h.lt
  refine ⟨hq, ⟨by omega, by rw [Nat.add_sub_cancel]; rw [Nat.add_mul, Nat.one_mul] at hs; omega, fun t h1 h2 => ?_⟩⟩
  have h3 := h.ge t h1 h2
  rcases Nat.lt_or_eq_of_le h3 with h4 | h4
  · omega
  · exfalso
    subst h4
    obtain ⟨d, hd⟩ : ∃ d, (p + 1) * below = r * W64 + next + 1 + d := ⟨(p + 1) * below - (r * W64 + next + 1), by omega⟩
    have h5 := alg_guess W64 d top below r next (p + 1) hd
    rw [hs] at h5
    omega
/-- The guess of a window: not below the quotient, and too much by less than one limb more. -/
theorem guess_window {win vs : List Nat} (hw : Small win) (hv : Small vs) {n : Nat} (hvl : vs.length = n + 2) (hwl : win.length = n + 3) {g : Nat}
    (h : Guess (win.getD (n + 2) 0) (win.getD (n + 1) 0) (win.getD n 0) (vs.getD (n + 1) 0) (vs.getD n 0) g) (hQ : val win < val vs * W64) :
    val win / val vs ≤ g ∧ g * val vs < val win + W64 ^ (n + 2) := by
  have e1 : val win = val (win.take n) + W64 ^ n * ((win.getD (n + 2) 0 * W64 + win.getD (n + 1) 0) * W64 + win.getD n 0) := by
    have h3 := val_split win n (by omega)
    have h4 := val_drop_step win n (by omega)
    have h5 := val_drop_step win (n + 1) (by omega)
    have h6 := val_drop_step win (n + 1 + 1) (by omega)
    rw [List.drop_of_length_le (i := n + 1 + 1 + 1) (by omega), val_nil, Nat.mul_zero, Nat.add_zero] at h6
    rw [h3, h4, h5, h6]
    congr 2
    show win.getD n 0 + W64 * (win.getD (n + 1) 0 + W64 * win.getD (n + 2) 0) = _
    generalize win.getD n 0 = a
    generalize win.getD (n + 1) 0 = b
    generalize win.getD (n + 2) 0 = c
    grind
  have e2 : val vs = val (vs.take n) + W64 ^ n * (vs.getD (n + 1) 0 * W64 + vs.getD n 0) := by
    have h3 := val_split vs n (by omega)
    have h4 := val_drop_step vs n (by omega)
    have h5 := val_drop_step vs (n + 1) (by omega)
    rw [List.drop_of_length_le (i := n + 1 + 1) (by omega), val_nil, Nat.mul_zero, Nat.add_zero] at h5
    rw [h3, h4, h5]
    congr 2
    generalize vs.getD n 0 = a
    generalize vs.getD (n + 1) 0 = b
    grind
  have h6 := val_lt (hw.take n)
  rw [List.length_take, Nat.min_eq_left (by omega)] at h6
  have h7 := val_lt (hv.take n)
  rw [List.length_take, Nat.min_eq_left (by omega)] at h7
  have h8 := hv.getD n
  have h9 := hw.getD n
  have hg := h.lt
  constructor
  · have hQ2 : val win / val vs < W64 := Nat.div_lt_of_lt_mul hQ
    refine h.ge _ hQ2 ?_
    have h1 := Nat.div_mul_le_self (val win) (val vs)
    generalize val win / val vs = Q at *
    rw [e1, e2] at h1
    generalize (win.getD (n + 2) 0 * W64 + win.getD (n + 1) 0) * W64 + win.getD n 0 = t at *
    generalize vs.getD (n + 1) 0 * W64 + vs.getD n 0 = v at *
    generalize val (vs.take n) = a at *
    generalize val (win.take n) = b at *
    generalize W64 ^ n = P at *
    rcases Nat.lt_or_ge t (Q * v) with h | h
    · exfalso
      have h7 := Nat.mul_le_mul_left P (show t + 1 ≤ Q * v from h)
      have h8 : Q * (a + P * v) = Q * a + P * (Q * v) := by grind
      rw [Nat.mul_add, Nat.mul_one] at h7
      have : 0 ≤ Q * a := Nat.zero_le _
      omega
    · exact h
  · rw [e1, e2, Nat.pow_add]
    have hle := h.le
    have hP : 0 < W64 ^ n := Nat.pow_pos W64_pos
    generalize win.getD (n + 2) 0 = hi at *
    generalize win.getD (n + 1) 0 = lo at *
    generalize win.getD n 0 = nx at *
    generalize vs.getD (n + 1) 0 = top at *
    generalize vs.getD n 0 = bl at *
    generalize val (vs.take n) = a at *
    generalize val (win.take n) = b at *
    generalize W64 ^ n = P at *
    -- g (a + P (top W + bl)) < g P (top W + W)
    have k1 : a + P * (top * W64 + bl) < P * ((top + 1) * W64) := by
      have k2 : P * (bl + 1) ≤ P * W64 := Nat.mul_le_mul_left P h8
      rw [Nat.mul_add, Nat.mul_one] at k2
      rw [Nat.mul_add, Nat.add_mul, Nat.one_mul, Nat.mul_add]
      omega
    have k3 : g * (a + P * (top * W64 + bl)) ≤ g * (P * ((top + 1) * W64)) := Nat.mul_le_mul_left g (Nat.le_of_lt k1)
    have k4 : g * (P * ((top + 1) * W64)) = P * ((g * top + g) * W64) := by grind
    rw [k4] at k3
    have k5 : g * top + g < hi * W64 + lo + W64 := by
      rcases hle with h | h
      · omega
      · have k6 := Nat.mul_le_mul (show g + 1 ≤ W64 from hg) (show top + 1 ≤ hi + 1 by omega)
        rw [Nat.mul_add, Nat.mul_one, Nat.add_mul, Nat.one_mul, Nat.mul_add, Nat.mul_one, Nat.mul_comm W64 hi] at k6
        omega
    have k7 : P * ((g * top + g) * W64) + P * W64 ≤ P * ((hi * W64 + lo + W64) * W64) := by
      rw [← Nat.mul_add]
      refine Nat.mul_le_mul_left P ?_
      have := Nat.mul_le_mul_right W64 (show g * top + g + 1 ≤ hi * W64 + lo + W64 from k5)
      rwa [Nat.add_mul _ 1, Nat.one_mul] at this
    have k8 : P * ((hi * W64 + lo + W64) * W64) = P * ((hi * W64 + lo) * W64) + P * W64 ^ 2 := by
      rw [Nat.add_mul, Nat.mul_add, Nat.pow_two]
    have k9 : 0 < P * W64 := Nat.mul_pos hP W64_pos
    rw [Nat.mul_add P _ nx]
    omega
end Go.Proofs.YtjbagikfogejnaaGreatDoor
/- The package divide: guess, take, give. -/
namespace Go.Proofs.YtjbagikfogejnaaGreatDoor
open Go.RowKit Go.Deep
theorem wrap_over {r t : Nat} (hr : r < W64) (ht : t < W64) (h : W64 ≤ r + t) : ∃ s : Nat, IntKind.u64.wrap ((r : Int) + (t : Int)) = (s : Int) ∧ s < t :=
  ⟨r + t - W64, by
    have hW := W64_eq
    rw [hW] at hr ht h
    rw [hW, IntKind.wrap_u64]
    omega, by omega⟩
theorem wrap_under {r t : Nat} (h : r + t < W64) : IntKind.u64.wrap ((r : Int) + (t : Int)) = ((r + t : Nat) : Int) := by
  rw [W64_eq] at h
  rw [IntKind.wrap_u64]
  omega
set_option maxHeartbeats 1000000 in
set_option maxRecDepth 100000 in
theorem divide_guess (hi lo next top below : Nat) (w : World) (_hhl : hi < W64) (hll : lo < W64) (hnl : next < W64) (htl : top < W64) (hbl : below < W64) (ht : 0 < top) :
    Calls Tryz.prog 185 #[.int .u64 (hi : Int), .int .u64 (lo : Int), .int .u64 (next : Int), .int .u64 (top : Int), .int .u64 (below : Int)] w fun e w' => ∃ g : Nat, e = .returned (.int .u64 (g : Int)) ∧ Guess hi lo next top below g ∧ ∃ q, w' = w.drewN q := by
  by_cases hge : top ≤ hi
  · have hgI : (top : Int) ≤ (hi : Int) := by omega
    have HGM := Lib.hid (Guess.most (lo := lo) (next := next) (below := below) hge)
    clear hge
    go_enter Tryz.func185, Tryz.ntmps185
    go_wp2_with fail
    go_ret
    exact ⟨W64 - 1, by rw [show ((W64 - 1 : Nat) : Int) = 18446744073709551615 by have := W64_eq; omega]; rfl, HGM.out, 0, rfl⟩
  · have hgI : ¬ (top : Int) ≤ (hi : Int) := by omega
    have hlt : hi < top := by omega
    have HST := Lib.hid (Guessing.start (below := below) ht hlt hll hnl)
    have HDIV := Lib.hid (bits_div64 hi lo top hll htl hlt)
    have HRL := Lib.hid (show (hi * W64 + lo) % top < W64 from Nat.lt_trans (Nat.mod_lt _ ht) htl)
    clear hge
    go_enter Tryz.func185, Tryz.ntmps185
    go_wp2_with fail
    refine (HDIV.out _).mono ?_
    rintro e w1 ⟨rfl, m0, rfl⟩
    obtain ⟨q0, hq0⟩ : ∃ q, (hi * W64 + lo) / top = q := ⟨_, rfl⟩
    obtain ⟨r0, hr0⟩ : ∃ q, (hi * W64 + lo) % top = q := ⟨_, rfl⟩
    rw [hq0, hr0] at HST
    rw [hr0] at HRL
    rw [hq0, hr0]
    clear hq0 hr0
    go_wp2_with fail
    go_loopw [11, 12] (fun t11 t12 wr => ∃ (q r : Nat), t11 = .int .u64 (q : Int) ∧ t12 = .int .u64 (r : Int) ∧ r < W64 ∧ Guessing hi lo next top below q r ∧ ∃ m, wr = w.drewN m) (fun t11 _ _ => (intOf t11).toNat)
    case atStart => exact ⟨q0, r0, rfl, rfl, HRL.out, HST.out, m0, rfl⟩
    case round =>
      obtain ⟨q, r, rfl, rfl, hr, hG, m, rfl⟩ := hrel
      have hql := hG.lt
      have hmul := Lib.hid (bits_mul64 q below hql hbl)
      have hsp := mul_split q below
      have HSTOP := Lib.hid hG.stop
      go_wp2_with fail
      refine (hmul.out _).mono ?_
      rintro e w1 ⟨rfl, rfl⟩
      obtain ⟨h, hh⟩ : ∃ h, mulHi q below = h := ⟨_, rfl⟩
      obtain ⟨l, hl⟩ : ∃ l, mulLo q below = l := ⟨_, rfl⟩
      rw [hh, hl] at hsp ⊢
      have hlW : l < W64 := hl ▸ mulLo_lt q below
      clear hh hl
      rcases Nat.lt_trichotomy h r with h1 | h1 | h1
      · have t1 : (h : Int) < (r : Int) := by omega
        clear h1
        go_wp2_with fail
        go_ret
        exact ⟨q, rfl, HSTOP.out, _, rfl⟩
      · rw [h1] at hsp ⊢
        clear h1
        by_cases h2 : l ≤ next
        · have t2 : (l : Int) ≤ (next : Int) := by omega
          clear h2
          go_wp2_with fail
          go_ret
          exact ⟨q, rfl, HSTOP.out, _, rfl⟩
        · have t2 : ¬ (l : Int) ≤ (next : Int) := by omega
          have hb : r * W64 + next < q * below := by rw [← hsp, Nat.mul_comm]; omega
          clear h2
          obtain ⟨hq1, hG2⟩ := hG.less hb
          have HG2 := Lib.hid hG2
          have hqI : (1 : Int) ≤ (q : Int) := by omega
          have hqW := lt_W64 hql
          by_cases hov : r + top < W64
          · have hw := wrap_under hov
            have hcmp : ¬ (((r + top : Nat) : Int) < (top : Int)) := by omega
            have HOV := Lib.hid hov
            clear hov
            go_wp2_with fail
            exact ⟨⟨q - 1, r + top, by congr 1; omega, rfl, HOV.out, HG2.out, _, rfl⟩, by simp [intOf]; omega⟩
          · obtain ⟨s, hw, hs⟩ := wrap_over hr htl (by omega)
            have hcmp : (s : Int) < (top : Int) := by omega
            clear hov
            go_wp2_with fail
            go_ret
            exact ⟨q - 1, by rw [show ((q - 1 : Nat) : Int) = (q : Int) - 1 by omega]; rfl, HG2.out.stop, _, rfl⟩
      · have t1 : ¬ (h : Int) < (r : Int) := by omega
        have t2 : ((h : Int) == (r : Int)) = false := beq_eq_false_iff_ne.2 (by omega)
        have hb : r * W64 + next < q * below := by
          have h5 := Nat.mul_le_mul_left W64 (show r + 1 ≤ h from h1)
          rw [Nat.mul_add, Nat.mul_one, Nat.mul_comm W64 r] at h5
          omega
        clear h1
        obtain ⟨hq1, hG2⟩ := hG.less hb
        have HG2 := Lib.hid hG2
        have hqI : (1 : Int) ≤ (q : Int) := by omega
        have hqW := lt_W64 hql
        by_cases hov : r + top < W64
        · have hw := wrap_under hov
          have hcmp : ¬ (((r + top : Nat) : Int) < (top : Int)) := by omega
          have HOV := Lib.hid hov
          clear hov
          go_wp2_with fail
          exact ⟨⟨q - 1, r + top, by congr 1; omega, rfl, HOV.out, HG2.out, _, rfl⟩, by simp [intOf]; omega⟩
        · obtain ⟨s, hw, hs⟩ := wrap_over hr htl (by omega)
          have hcmp : (s : Int) < (top : Int) := by omega
          clear hov
          go_wp2_with fail
          go_ret
          exact ⟨q - 1, by rw [show ((q - 1 : Nat) : Int) = (q : Int) - 1 by omega]; rfl, HG2.out.stop, _, rfl⟩
theorem Lim.off {w w' : World} {A : Option Addr} {xs : List Nat} {g : Nat} (h : Lim w w.heap.size A xs) (hg : w.grownBy w' (some g)) (hne : 0 < xs.length → ∀ ad, A = some ad → ad.block ≠ g) : Lim w' w'.heap.size A xs := by
  refine ⟨h.small, fun hn => ?_⟩
  obtain ⟨ad, ha, hb, hc⟩ := h.cells hn
  refine ⟨ad, ha, Nat.lt_of_lt_of_le hb hg.size, fun j hj => ?_⟩
  rw [cell_of_block (w := w)]
  · exact hc j hj
  · rw [block_of_add]
    exact hg.block _ hb (by intro e; injection e with e; exact hne hn ad ha e)
theorem drew_grown (w : World) (n : Nat) (k : Option Nat) : w.grownBy (w.drewN n) k := ⟨rfl, rfl, rfl, Nat.le_refl _, fun _ _ _ => rfl⟩
set_option maxHeartbeats 4000000 in
set_option maxRecDepth 100000 in
theorem divide_take (g p la ca c2 n q0 : Nat) (us : List Nat) (A2 : Option Addr) (vs : List Nat) (w : World) (hrow0 : Row w g us) (h2 : Lim w w.heap.size A2 vs) (hne : ∀ ad, A2 = some ad → ad.block ≠ g) (hvl : vs.length = n + 1) (hp : p + (n + 2) ≤ us.length) (hla : n + 2 ≤ la) (hul : us.length ≤ 1099511627776) (hq0W : q0 < W64) :
    Calls Tryz.prog 186 #[.slice (some ⟨g, p, none⟩) la ca, .slice A2 (n + 1) c2, .int .u64 (q0 : Int)] w fun e w' => ∃ (b : Nat) (us' : List Nat), e = .returned (.bool (decide (b = 1))) ∧ b ≤ 1 ∧ Row w' g us' ∧ us'.length = us.length ∧ us'.take p = us.take p ∧ us'.drop (p + (n + 2)) = us.drop (p + (n + 2)) ∧ val ((us'.drop p).take (n + 2)) + q0 * val vs = val ((us.drop p).take (n + 2)) + W64 ^ (n + 2) * b ∧ w.grownBy w' (some g) := by
  have nI : (n : Int) + 2 ≤ (la : Int) := by omega
  have nI2 : (n : Int) ≤ 1099511627776 := by omega
  have HVL := Lib.hid hvl
  have HP := Lib.hid hp
  have HUL := Lib.hid hul
  clear hvl hp hul hla
  go_enter Tryz.func186, Tryz.ntmps186
  go_wp2_with fail
  go_loopw [7, 8, 15] (fun t7 t8 t15 wr => ∃ (i b c : Nat) (os : List Nat), i ≤ n + 1 ∧ b ≤ 1 ∧ c < W64 ∧ t8 = .int .u64 (b : Int) ∧ t7 = .int .u64 (c : Int) ∧ t15 = .int .i64 (i : Int) ∧ Hid (os.length = us.length) ∧ Hid (Row wr g os) ∧ Hid (w.grownBy wr (some g)) ∧ Hid (os.take p = us.take p) ∧ Hid (os.drop (p + i) = us.drop (p + i)) ∧ Hid (val ((os.drop p).take i) + q0 * val (vs.take i) = val ((us.drop p).take i) + W64 ^ i * (b + c))) (fun _ _ t15 _ => n + 1 - (intOf t15).toNat)
  case atStart => exact ⟨0, 0, 0, us, by omega, by omega, W64_pos, rfl, rfl, rfl, Lib.hid rfl, Lib.hid hrow0, Lib.hid ⟨rfl, rfl, rfl, Nat.le_refl _, fun _ _ _ => rfl⟩, Lib.hid rfl, Lib.hid rfl, Lib.hid (by simp)⟩
  case round =>
    obtain ⟨i, b, c, os, hi, hb, hc, rfl, rfl, rfl, HO, HROW, HGR, HT, HD, HV⟩ := hrel
    have hil : p + (n + 2) ≤ os.length := by rw [HO.out]; exact HP.out
    have HLV := Lib.hid (h2.off HGR.out (fun _ => hne))
    by_cases hlt : i < n + 1
    · obtain ⟨ad, rfl, hb3, hcell⟩ := HLV.out.at_ (k := i) (by rw [HVL.out]; exact hlt)
      obtain ⟨y, hy⟩ : ∃ y, vs.getD i 0 = y := ⟨_, rfl⟩
      obtain ⟨u, hu⟩ : ∃ u, os.getD (p + i) 0 = u := ⟨_, rfl⟩
      have hyW : y < W64 := hy ▸ h2.small.getD i
      have huW : u < W64 := hu ▸ HROW.out.small.getD (p + i)
      have hu2 : (us.drop p).getD i 0 = u := by rw [getD_drop, ← getD_of_drop HD.out, hu]
      rw [hy] at hcell
      have hcu := HROW.out.cell (k := p + i) (by omega)
      have hfu := HROW.out.free (p + i)
      rw [hu] at hcu
      have hm1 := mulsub_step (mul_split q0 y) (add_split (mulLo q0 y) c 0)
      have hcW := mulsub_bound hq0W hyW hc hm1
      have hs1 := sub_split huW (addLo_lt (mulLo q0 y) c 0) hb
      have hb1 := subHi_le u (addLo (mulLo q0 y) c 0) b
      have HSET := Lib.hid (HROW.out.set (k := p + i) (x := subLo u (addLo (mulLo q0 y) c 0) b) (by omega) (subLo_lt _ _ _))
      have HGR2 := Lib.hid (grownBy_trans HGR.out (only_set wr ⟨g, p + i, none⟩ (.int .u64 (subLo u (addLo (mulLo q0 y) c 0) b : Nat))))
      have ha1 := add64_run0 (mulLo q0 y) c
      have ha2 := sub64_run u (addLo (mulLo q0 y) c 0) b hb
      have hmul := Lib.hid (bits_mul64 q0 y hq0W hyW)
      have hbc := lt_W64 hcW
      rw [Int.natCast_add] at hbc
      have HS := Lib.hid (show val (((os.set (p + i) (subLo u (addLo (mulLo q0 y) c 0) b)).drop p).take (i + 1)) + q0 * val (vs.take (i + 1)) = val ((us.drop p).take (i + 1)) + W64 ^ (i + 1) * (subHi u (addLo (mulLo q0 y) c 0) b + (mulHi q0 y + addHi (mulLo q0 y) c 0)) by
        have hV := HV.out
        rw [drop_set_add, val_take_set _ _ _ (by rw [List.length_drop]; omega), val_take_step vs, val_take_step (us.drop p), hy, hu2, Nat.pow_succ]
        exact alg_mulsub W64 hV hs1 hm1)
      have HL := Lib.hid (show (os.set (p + i) (subLo u (addLo (mulLo q0 y) c 0) b)).length = us.length by rw [List.length_set, HO.out])
      have HT2 := Lib.hid (show (os.set (p + i) (subLo u (addLo (mulLo q0 y) c 0) b)).take p = us.take p by rw [List.take_set_of_le (by omega), HT.out])
      have HD2 := Lib.hid (show (os.set (p + i) (subLo u (addLo (mulLo q0 y) c 0) b)).drop (p + (i + 1)) = us.drop (p + (i + 1)) by
        rw [List.drop_set_of_lt (by omega), ← Nat.add_assoc]; exact drop_more HD.out 1)
      have HY := Lib.hid hy
      have HU := Lib.hid hu
      have HU2 := Lib.hid hu2
      have hiI : (i : Int) < (n : Int) + 1 := by omega
      have hiI2 : (i : Int) < (la : Int) := by omega
      clear hm1 hs1 hy hu hu2
      go_wp2_with fail
      refine (hmul.out _).mono ?_
      rintro e w1 ⟨rfl, rfl⟩
      go_wp2_with fail
      exact ⟨⟨i + 1, _, _, _, by omega, hb1, hcW, rfl, by simp only [Int.natCast_add], by go_num, HL, HSET, HGR2, HT2, HD2, HS⟩, by simp [intOf]; omega⟩
    · obtain rfl : i = n + 1 := by omega
      obtain ⟨u, hu⟩ : ∃ u, os.getD (p + (n + 1)) 0 = u := ⟨_, rfl⟩
      have huW : u < W64 := hu ▸ HROW.out.small.getD _
      have hu2 : (us.drop p).getD (n + 1) 0 = u := by rw [getD_drop, ← getD_of_drop HD.out, hu]
      have hcu := HROW.out.cell (k := p + (n + 1)) (by omega)
      have hfu := HROW.out.free (p + (n + 1))
      rw [hu] at hcu
      have hs1 := sub_split huW hc hb
      have hb1 := subHi_le u c b
      have HSET := Lib.hid (HROW.out.set (k := p + (n + 1)) (x := subLo u c b) (by omega) (subLo_lt _ _ _))
      have HGR2 := Lib.hid (grownBy_trans HGR.out (only_set wr ⟨g, p + (n + 1), none⟩ (.int .u64 (subLo u c b : Nat))))
      have ha2 := sub64_run u c b hb
      have HS := Lib.hid (show val (((os.set (p + (n + 1)) (subLo u c b)).drop p).take (n + 2)) + q0 * val vs = val ((us.drop p).take (n + 2)) + W64 ^ (n + 2) * subHi u c b by
        have hV := HV.out
        rw [show vs.take (n + 1) = vs from List.take_of_length_le (by rw [HVL.out]; omega)] at hV
        rw [drop_set_add, show n + 2 = (n + 1) + 1 by rfl, val_take_set _ _ _ (by rw [List.length_drop]; omega), val_take_step (us.drop p), hu2, Nat.pow_succ]
        exact alg_sub W64 hV hs1)
      have HL := Lib.hid (show (os.set (p + (n + 1)) (subLo u c b)).length = us.length by rw [List.length_set, HO.out])
      have HT2 := Lib.hid (show (os.set (p + (n + 1)) (subLo u c b)).take p = us.take p by rw [List.take_set_of_le (by omega), HT.out])
      have HD2 := Lib.hid (show (os.set (p + (n + 1)) (subLo u c b)).drop (p + (n + 2)) = us.drop (p + (n + 2)) by
        rw [List.drop_set_of_lt (by omega)]; exact drop_more HD.out 1)
      have HU := Lib.hid (And.intro hu hu2)
      have hiI2 : (n : Int) + 1 < (la : Int) := by omega
      clear hs1 hu hu2
      obtain ⟨b1, hb1e⟩ : ∃ b1, subHi u c b = b1 := ⟨_, rfl⟩
      rw [hb1e] at ha2 hb1 HS
      clear hb1e
      have hcase : b1 = 0 ∨ b1 = 1 := by omega
      rcases hcase with rfl | rfl
      · rw [Int.natCast_zero] at ha2
        go_wp2_with fail
        go_ret
        exact ⟨0, _, rfl, by omega, HSET.out, HL.out, HT2.out, HD2.out, HS.out, HGR2.out⟩
      · rw [Int.natCast_one] at ha2
        go_wp2_with fail
        go_ret
        exact ⟨1, _, rfl, by omega, HSET.out, HL.out, HT2.out, HD2.out, HS.out, HGR2.out⟩
set_option maxHeartbeats 4000000 in
set_option maxRecDepth 100000 in
theorem divide_give (g p la ca c2 n : Nat) (us : List Nat) (A2 : Option Addr) (vs : List Nat) (w : World) (hrow0 : Row w g us) (h2 : Lim w w.heap.size A2 vs) (hne : ∀ ad, A2 = some ad → ad.block ≠ g) (hvl : vs.length = n + 1) (hp : p + (n + 2) ≤ us.length) (hla : n + 2 ≤ la) (hul : us.length ≤ 1099511627776) :
    Calls Tryz.prog 187 #[.slice (some ⟨g, p, none⟩) la ca, .slice A2 (n + 1) c2] w fun e w' => ∃ (v : Value) (c : Nat) (us' : List Nat), e = .returned v ∧ c ≤ 1 ∧ Row w' g us' ∧ us'.length = us.length ∧ us'.take p = us.take p ∧ us'.drop (p + (n + 2)) = us.drop (p + (n + 2)) ∧ val ((us'.drop p).take (n + 2)) + W64 ^ (n + 2) * c = val ((us.drop p).take (n + 2)) + val vs ∧ w.grownBy w' (some g) := by
  have nI : (n : Int) + 2 ≤ (la : Int) := by omega
  have nI2 : (n : Int) ≤ 1099511627776 := by omega
  have HVL := Lib.hid hvl
  have HP := Lib.hid hp
  have HUL := Lib.hid hul
  clear hvl hp hul hla
  go_enter Tryz.func187, Tryz.ntmps187
  go_wp2_with fail
  go_loopw [4, 8] (fun t4 t8 wr => ∃ (i c : Nat) (os : List Nat), i ≤ n + 1 ∧ c ≤ 1 ∧ t4 = .int .u64 (c : Int) ∧ t8 = .int .i64 (i : Int) ∧ Hid (os.length = us.length) ∧ Hid (Row wr g os) ∧ Hid (w.grownBy wr (some g)) ∧ Hid (os.take p = us.take p) ∧ Hid (os.drop (p + i) = us.drop (p + i)) ∧ Hid (val ((os.drop p).take i) + W64 ^ i * c = val ((us.drop p).take i) + val (vs.take i))) (fun _ t8 _ => n + 1 - (intOf t8).toNat)
  case atStart => exact ⟨0, 0, us, by omega, by omega, rfl, rfl, Lib.hid rfl, Lib.hid hrow0, Lib.hid ⟨rfl, rfl, rfl, Nat.le_refl _, fun _ _ _ => rfl⟩, Lib.hid rfl, Lib.hid rfl, Lib.hid (by simp)⟩
  case round =>
    obtain ⟨i, c, os, hi, hc, rfl, rfl, HO, HROW, HGR, HT, HD, HV⟩ := hrel
    have hil : p + (n + 2) ≤ os.length := by rw [HO.out]; exact HP.out
    have HLV := Lib.hid (h2.off HGR.out (fun _ => hne))
    by_cases hlt : i < n + 1
    · obtain ⟨ad, rfl, hb3, hcell⟩ := HLV.out.at_ (k := i) (by rw [HVL.out]; exact hlt)
      obtain ⟨y, hy⟩ : ∃ y, vs.getD i 0 = y := ⟨_, rfl⟩
      obtain ⟨u, hu⟩ : ∃ u, os.getD (p + i) 0 = u := ⟨_, rfl⟩
      have hyW : y < W64 := hy ▸ h2.small.getD i
      have huW : u < W64 := hu ▸ HROW.out.small.getD (p + i)
      have hu2 : (us.drop p).getD i 0 = u := by rw [getD_drop, ← getD_of_drop HD.out, hu]
      rw [hy] at hcell
      have hcu := HROW.out.cell (k := p + i) (by omega)
      have hfu := HROW.out.free (p + i)
      rw [hu] at hcu
      have hs1 := add_split u y c
      have hc1 := addHi_le huW hyW hc
      have HS := Lib.hid (show val (((os.set (p + i) (addLo u y c)).drop p).take (i + 1)) + W64 ^ (i + 1) * addHi u y c = val ((us.drop p).take (i + 1)) + val (vs.take (i + 1)) by
        have hV := HV.out
        rw [drop_set_add, val_take_set _ _ _ (by rw [List.length_drop]; omega), val_take_step vs, val_take_step (us.drop p), hy, hu2, Nat.pow_succ]
        exact alg_add W64 hV hs1)
      have HL := Lib.hid (show (os.set (p + i) (addLo u y c)).length = us.length by rw [List.length_set, HO.out])
      have HT2 := Lib.hid (show (os.set (p + i) (addLo u y c)).take p = us.take p by rw [List.take_set_of_le (by omega), HT.out])
      have HD2 := Lib.hid (show (os.set (p + i) (addLo u y c)).drop (p + (i + 1)) = us.drop (p + (i + 1)) by
        rw [List.drop_set_of_lt (by omega), ← Nat.add_assoc]; exact drop_more HD.out 1)
      have ha := add64_run u y c hc
      have r1 := later_cell hcell
      have r2 := later_cell hcu
      have hiI : (i : Int) < (n : Int) + 1 := by omega
      have hiI2 : (i : Int) < (la : Int) := by omega
      have HU := Lib.hid (And.intro hu hy)
      have HU2 := Lib.hid hu2
      clear hu hy hu2 hs1
      go_wp2_with fail
      have HGN := Lib.hid (fun m => grownBy_trans HGR.out (show wr.grownBy ((wr.drewN m).setCell ⟨g, p + i, none⟩ (.int .u64 (addLo u y c : Nat))) (some g) from grownBy_trans (drew_grown wr m _) (only_set (wr.drewN m) ⟨g, p + i, none⟩ (.int .u64 (addLo u y c : Nat)))))
      have HSN := Lib.hid (fun m => show Row ((wr.drewN m).setCell ⟨g, p + i, none⟩ (.int .u64 (addLo u y c : Nat))) g (os.set (p + i) (addLo u y c)) from (HROW.out.drewN m).set (by omega) (addLo_lt _ _ _))
      go_region_with (fail)
      all_goals
        go_wp2_with fail
        exact ⟨⟨i + 1, _, _, by omega, hc1, rfl, by go_num, HL, Lib.hid (HSN.out _), Lib.hid (HGN.out _), HT2, HD2, HS⟩, by simp [intOf]; omega⟩
    · obtain rfl : i = n + 1 := by omega
      obtain ⟨u, hu⟩ : ∃ u, os.getD (p + (n + 1)) 0 = u := ⟨_, rfl⟩
      have huW : u < W64 := hu ▸ HROW.out.small.getD _
      have hu2 : (us.drop p).getD (n + 1) 0 = u := by rw [getD_drop, ← getD_of_drop HD.out, hu]
      have hcu := HROW.out.cell (k := p + (n + 1)) (by omega)
      have hfu := HROW.out.free (p + (n + 1))
      rw [hu] at hcu
      have hs1 := add_split u 0 c
      have hc1 := addHi_le huW W64_pos hc
      have hwr : IntKind.u64.wrap ((u : Int) + (c : Int)) = ((addLo u 0 c : Nat) : Int) := by
        unfold addLo
        rw [IntKind.wrap_u64, W64_eq]
        omega
      have HSET := Lib.hid (HROW.out.set (k := p + (n + 1)) (x := addLo u 0 c) (by omega) (addLo_lt _ _ _))
      have HGR2 := Lib.hid (grownBy_trans HGR.out (only_set wr ⟨g, p + (n + 1), none⟩ (.int .u64 (addLo u 0 c : Nat))))
      have HS := Lib.hid (show val (((os.set (p + (n + 1)) (addLo u 0 c)).drop p).take (n + 2)) + W64 ^ (n + 2) * addHi u 0 c = val ((us.drop p).take (n + 2)) + val vs by
        have hV := HV.out
        rw [show vs.take (n + 1) = vs from List.take_of_length_le (by rw [HVL.out]; omega)] at hV
        rw [drop_set_add, show n + 2 = (n + 1) + 1 by rfl, val_take_set _ _ _ (by rw [List.length_drop]; omega), val_take_step (us.drop p), hu2, Nat.pow_succ]
        have h4 := alg_add W64 hV hs1
        rwa [Nat.mul_zero, Nat.add_zero] at h4)
      have HL := Lib.hid (show (os.set (p + (n + 1)) (addLo u 0 c)).length = us.length by rw [List.length_set, HO.out])
      have HT2 := Lib.hid (show (os.set (p + (n + 1)) (addLo u 0 c)).take p = us.take p by rw [List.take_set_of_le (by omega), HT.out])
      have HD2 := Lib.hid (show (os.set (p + (n + 1)) (addLo u 0 c)).drop (p + (n + 2)) = us.drop (p + (n + 2)) by
        rw [List.drop_set_of_lt (by omega)]; exact drop_more HD.out 1)
      have HU := Lib.hid (And.intro hu hu2)
      have hiI2 : (n : Int) + 1 < (la : Int) := by omega
      clear hs1 hu hu2
      go_wp2_with fail
      go_end0
      exact ⟨_, addHi u 0 c, _, rfl, hc1, HSET.out, HL.out, HT2.out, HD2.out, HS.out, HGR2.out⟩
end Go.Proofs.YtjbagikfogejnaaGreatDoor
/- The package divide: trim, short, shifted, made. -/
namespace Go.Proofs.YtjbagikfogejnaaGreatDoor
open Go.RowKit Go.Deep
set_option maxHeartbeats 400000 in
theorem divide_trim (A : Option Addr) (c : Nat) (xs : List Nat) (w : World) {B : Nat} (h : Lim w B A xs) (hc : xs.length ≤ c) (_hl : xs.length ≤ 35184372088832) :
    Calls Tryz.prog 180 #[.slice A xs.length c] w fun e w' => e = .returned (.slice A (limbs (val xs)).length (limbs (val xs)).length) ∧ w = w' := by
  rw [← trimL_eq h.small]
  have hcI : (xs.length : Int) ≤ (c : Int) := by omega
  go_enter Tryz.func180, Tryz.ntmps180
  go_wp2
  go_loop [3] (fun v => ∃ n : Nat, n ≤ xs.length ∧ v = .int .i64 (n : Int) ∧ trimL (xs.take n) = trimL xs) (fun v => (intOf v).toNat)
  case atStart => exact ⟨xs.length, Nat.le_refl _, rfl, by simp⟩
  case round =>
    obtain ⟨n, hn, rfl, ht⟩ := hrel
    have HT := Lib.hid ht
    clear ht
    rcases n with _ | n
    · go_wp2
      go_ret
      exact ⟨by rw [← HT.out]; rfl, rfl⟩
    · obtain ⟨ad, rfl, hb, hcell⟩ := h.at_ (k := n) (by omega)
      generalize hx : xs.getD n 0 = x at *
      have HX := Lib.hid hx
      clear hx
      have hn1 : (n : Int) + 1 ≤ (xs.length : Int) := by omega
      go_wp2
      · have hx : ((x : Int) == 0) = true := by assumption
        simp only [beq_iff_eq] at hx
        refine ⟨⟨n, by omega, by go_num, ?_⟩, by simp [intOf]⟩
        rw [← HT.out, trimL_zero xs n (by omega) (by have := HX.out; omega)]
      · have hx : ((x : Int) == 0) = false := by assumption
        simp only [beq_eq_false_iff_ne] at hx
        go_ret
        have e : (trimL xs).length = n + 1 := by
          rw [← HT.out, trimL_pos xs n (by omega) (by have := HX.out; omega), List.length_take]; omega
        exact ⟨by rw [e]; rfl, rfl⟩
/-- The block of a slice. -/
def blockOf : Value → Option Nat
  | .slice (some a) _ _ => some a.block
  | .agg #[_, .slice (some a) _ _] => some a.block
  | _ => none
/-- Two values lie in two blocks. -/
def Sep (u v : Value) : Prop := ∀ a b, blockOf u = some a → blockOf v = some b → a ≠ b
theorem Sep.nil (v : Value) : Sep (.slice none 0 0) v := fun a b h _ => by cases h
theorem Sep.of_lt {A B : Addr} {l c m d : Nat} (h : A.block < B.block) : Sep (.slice (some A) l c) (.slice (some B) m d) := fun a b h1 h2 => by
  injection h1 with h1
  injection h2 with h2
  omega
theorem Sep.sub {u v u' v' : Value} (h : Sep u v) (hu : ∀ b, blockOf u' = some b → blockOf u = some b) (hv : ∀ b, blockOf v' = some b → blockOf v = some b) : Sep u' v' := fun a b h1 h2 => h a b (hu a h1) (hv b h2)
/-- A slice of limbs, not trimmed, in memory since base: this is its number. -/
def Part (w : World) (base : Nat) (v : Value) (n : Nat) : Prop := ∃ A c xs, v = .slice A xs.length c ∧ xs.length ≤ c ∧ xs.length ≤ 1099511627776 ∧ Lim w w.heap.size A xs ∧ Fresh w base A c ∧ val xs = n
theorem Part.below {w w' : World} {base : Nat} {v : Value} {n : Nat} (h : Part w base v n) (hb : Below w.heap.size w w') : Part w' base v n := by
  obtain ⟨A, c, xs, h1, h2, h3, h4, h5, h6⟩ := h
  exact ⟨A, c, xs, h1, h2, h3, (h4.below hb).more hb.size, h5.below hb, h6⟩
theorem Part.stay {w w' : World} {base : Nat} {v : Value} {n : Nat} (h : Part w base v n) (hb : Below w.heap.size w w') : Part w' base v n := h.below hb
theorem Part.row {w : World} {base g : Nat} {xs : List Nat} (h : Row w g xs) (hf : Fresh w base (some ⟨g, 0, none⟩) xs.length) (hl : xs.length ≤ 1099511627776) : Part w base (.slice (some ⟨g, 0, none⟩) xs.length xs.length) (val xs) :=
  ⟨_, _, xs, rfl, Nat.le_refl _, hl, h.lim h.lt, hf, rfl⟩
theorem Part.one (W : World) (r : Nat) (hr : r < W64) : Part (W.alloc (.cells #[.int .u64 (r : Int)] 41)) W.heap.size (.slice (some ⟨W.heap.size, 0, none⟩) 1 1) r := by
  have ho : Own (W.alloc (.cells #[.int .u64 (r : Int)] 41)) W.heap.size (.slice (some ⟨W.heap.size, 0, none⟩) 1 1) [r] :=
    ⟨Small.one hr, rfl, .inr ⟨W.heap.size, 1, _, rfl, Nat.le_refl _, heap_alloc_new W _, Nat.le_refl _, by simp only [maxLen]; omega, rfl, rfl⟩⟩
  obtain ⟨A, c, e, hc, hlim, _⟩ := ho.form
  injection e with e1 e2 e3
  subst e1
  exact ⟨_, 1, [r], rfl, by simp, by simp, hlim, .inr ⟨_, _, rfl, Nat.le_refl _, heap_alloc_new W _, by simp⟩, by simp [val]⟩
theorem Part.since {w : World} {base base' : Nat} {v : Value} {n : Nat} (h : Part w base v n) (hb : base' ≤ base) : Part w base' v n := by
  obtain ⟨A, c, xs, h1, h2, h3, h4, h5, h6⟩ := h
  exact ⟨A, c, xs, h1, h2, h3, h4, h5.since hb, h6⟩
theorem Part.nil (w : World) (base : Nat) : Part w base (.slice none 0 0) 0 := ⟨none, 0, [], rfl, by simp, by simp, Lim.nil _ _ _, .inl ⟨rfl, rfl⟩, rfl⟩
set_option maxHeartbeats 800000 in
set_option maxRecDepth 100000 in
theorem divide_short (A1 : Option Addr) (c1 : Nat) (xs : List Nat) (d : Nat) (w : World) {B : Nat} (hB : B ≤ w.heap.size) (h1 : Lim w B A1 xs) (hl : xs.length ≤ 1099511627776) (hd : d < W64) (hd0 : 0 < d) :
    Calls Tryz.prog 177 #[.slice A1 xs.length c1, .int .u64 (d : Int)] w fun e w' => ∃ u v, e = .returned (.tuple #[u, v]) ∧ Part w' w.heap.size u (val xs / d) ∧ Part w' w.heap.size v (val xs % d) ∧ Sep u v ∧ Below w.heap.size w w' := by
  have hmk := make_limbs xs.length (by omega)
  go_enter Tryz.func177, Tryz.ntmps177
  go_wp2_with fail
  go_loopw [7, 8] (fun t7 t8 wr => ∃ (k r : Nat) (os : List Nat), k ≤ xs.length ∧ r < d ∧ os.length = xs.length ∧ t7 = .int .u64 (r : Int) ∧ t8 = .int .i64 ((k : Int) - 1) ∧ Row wr w.heap.size os ∧ Fresh wr w.heap.size (some ⟨w.heap.size, 0, none⟩) xs.length ∧ Below w.heap.size w wr ∧ val (xs.drop k) = d * val (os.drop k) + r) (fun _ t8 _ => (intOf t8 + 1).toNat)
  case atStart =>
    exact ⟨xs.length, 0, List.replicate xs.length 0, by omega, hd0, by simp, rfl, rfl, Row.made _ _, Fresh.made _ _, (Below.refl _ _).alloc (Nat.le_refl _) _, by simp⟩
  case round =>
    obtain ⟨k, r, os, hk, hr, ho, rfl, rfl, hrow, hfr, hbel, hval⟩ := hrel
    have HV := Lib.hid hval
    have HO := Lib.hid ho
    clear hval ho
    rcases k with _ | k
    · have hq : val os = val xs / d ∧ r = val xs % d := by
        have h := HV.out
        rw [List.drop_zero, List.drop_zero] at h
        rw [h, Nat.mul_add_div hd0, Nat.mul_add_mod, Nat.div_eq_of_lt hr, Nat.mod_eq_of_lt hr]
        exact ⟨rfl, rfl⟩
      have HQ := Lib.hid hq
      clear hq
      go_wp2_with fail
      go_ret2
      have hr2 : r < W64 := by omega
      have hb1 : Below wr.heap.size wr (wr.alloc (.cells #[.int .u64 (r : Int)] 41)) := (Below.refl _ _).alloc (Nat.le_refl _) _
      refine ⟨_, _, rfl, ?_, ?_, Sep.of_lt hrow.lt, hbel.trans (hb1.mono hbel.size)⟩
      · have h := (Part.row hrow (by rw [HO.out]; exact hfr) (by rw [HO.out]; omega)).below hb1
        rw [HO.out, HQ.out.1] at h
        exact h
      · rw [← HQ.out.2]
        exact (Part.one wr r hr2).since hbel.size
    · obtain ⟨ad, rfl, hb, hcell⟩ := (h1.below (hbel.mono hB)).at_ (k := k) (by omega)
      obtain ⟨x, hx⟩ : ∃ x, xs.getD k 0 = x := ⟨_, rfl⟩
      have hxs : x < W64 := hx ▸ h1.small.getD k
      rw [hx] at hcell
      have hdl := digit_lt hr hxs
      have hml : (r * W64 + x) % d < d := Nat.mod_lt _ hd0
      have h2 := Nat.div_add_mod (r * W64 + x) d
      have hdiv := bits_div64 r x d hxs hd hr
      generalize (r * W64 + x) / d = q at *
      generalize (r * W64 + x) % d = t at *
      have hstep : val (xs.drop k) = d * val ((os.set k q).drop k) + t := by
        have hV := HV.out
        rw [val_drop_step xs k (by omega), hx, hV, val_drop_set os k _ (by rw [HO.out]; omega)]
        generalize val (os.drop (k + 1)) = v at *
        grind
      have HS := Lib.hid hstep
      have HL := Lib.hid (show (os.set k q).length = xs.length by rw [List.length_set, HO.out])
      have hcg := hrow.cell (k := k) (by rw [HO.out]; omega)
      have hfg := hrow.free k
      have HK := Lib.hid (show k < os.length by rw [HO.out]; omega)
      have HDIV := Lib.hid hdiv
      have e1 : ((k + 1 : Nat) : Int) - 1 = (k : Int) := by omega
      rw [e1]
      clear e1 hstep hx h2 hdiv
      go_wp2_with fail
      refine (HDIV.out _).mono ?_
      rintro e w1 ⟨rfl, n, rfl⟩
      go_wp2_with fail
      exact ⟨⟨k, _, _, by omega, hml, HL.out, rfl, rfl, (hrow.drewN n).set HK.out hdl, (hfr.below (below_drewN (Below.refl _ _) n)).set _ _ _, (below_drewN hbel n).setCell (p := ⟨w.heap.size, k, none⟩) (Nat.le_refl _) _, HS.out⟩, by simp [intOf]⟩
theorem shift_state {W T P d t x low a b : Nat} (h : d + W * t = x * T + low) (hV : a + P * low = b * T) : a + P * d + P * W * t = (b + P * x) * T := by
  have h2 : P * (d + W * t) = P * (x * T + low) := by rw [h]
  grind
theorem val_take_two (os : List Nat) (i d t : Nat) (h : i + 1 < os.length) : val (((os.set i d).set (i + 1) t).take (i + 1 + 1)) = val (os.take i) + W64 ^ i * d + W64 ^ i * W64 * t := by
  rw [val_take_set _ _ _ (by rw [List.length_set]; omega), val_take_set _ _ _ (by omega), Nat.pow_succ]
set_option maxHeartbeats 1600000 in
set_option maxRecDepth 100000 in
theorem divide_shifted (A1 : Option Addr) (c1 : Nat) (xs : List Nat) (s : Nat) (w : World) {B : Nat} (hB : B ≤ w.heap.size) (h1 : Lim w B A1 xs) (hl : xs.length ≤ 1099511627776) (hs : s < 64) :
    Calls Tryz.prog 184 #[.slice A1 xs.length c1, .int .i64 (s : Int)] w fun e w' => ∃ g os, e = .returned (.slice (some ⟨g, 0, none⟩) (xs.length + 1) (xs.length + 1)) ∧ (w.heap.size ≤ g ∧ g < w'.heap.size) ∧ os.length = xs.length + 1 ∧ Row w' g os ∧ Fresh w' w.heap.size (some ⟨g, 0, none⟩) (xs.length + 1) ∧ val os = val xs * 2 ^ s ∧ Below w.heap.size w w' := by
  have hmk := make_limbs (xs.length + 1) (by omega)
  rw [Int.natCast_add, Int.natCast_one] at hmk
  have hsI : (s : Int) < 64 := by omega
  have hsJ : (63 : Int) - (s : Int) = ((63 - s : Nat) : Int) := by omega
  have hlI : (xs.length : Int) ≤ 1099511627776 := by omega
  have HL := Lib.hid hl
  have HS0 := Lib.hid hs
  clear hl
  go_enter Tryz.func184, Tryz.ntmps184
  go_wp2_with fail
  go_loopw [14] (fun t14 wr => ∃ (i : Nat) (os : List Nat), i ≤ xs.length ∧ t14 = .int .i64 (i : Int) ∧ Hid (os.length = xs.length + 1) ∧ Hid (Row wr w.heap.size os) ∧ Hid (Fresh wr w.heap.size (some ⟨w.heap.size, 0, none⟩) (xs.length + 1)) ∧ Hid (Below w.heap.size w wr) ∧ Hid (os.getD i 0 < 2 ^ s) ∧ Hid (val (os.take (i + 1)) = val (xs.take i) * 2 ^ s)) (fun t14 _ => xs.length - (intOf t14).toNat)
  case atStart =>
    exact ⟨0, List.replicate (xs.length + 1) 0, by omega, rfl, Lib.hid (by simp), Lib.hid (Row.made _ _), Lib.hid (Fresh.made _ _), Lib.hid ((Below.refl _ _).alloc (Nat.le_refl _) _), Lib.hid (by have := Nat.pow_pos (n := s) (show 0 < 2 by omega); simpa using this), Lib.hid (by rw [List.take_zero, val_nil, Nat.zero_mul]; simp [val])⟩
  case round =>
    obtain ⟨i, os, hi, rfl, HO, HROW, HF, HB, HLOW, HV⟩ := hrel
    by_cases hlt : i < xs.length
    · obtain ⟨ad, rfl, hb, hcell⟩ := (h1.below (HB.out.mono hB)).at_ (k := i) hlt
      obtain ⟨x, hx⟩ : ∃ x, xs.getD i 0 = x := ⟨_, rfl⟩
      have hxs : x < W64 := hx ▸ h1.small.getD i
      rw [hx] at hcell
      obtain ⟨low, hlow⟩ : ∃ l, os.getD i 0 = l := ⟨_, rfl⟩
      have hlw := HLOW.out
      rw [hlow] at hlw
      have hpow : 2 ^ s ≤ W64 := by rw [W64_two]; exact Nat.pow_le_pow_right (by omega) (by omega)
      obtain ⟨hd1, hd2, hd3, hd4⟩ := shl_step hxs hs hlw
      have e1 : bits .or .u64 (low : Int) (IntKind.u64.wrap ((x : Int) * 2 ^ s)) = ((x * 2 ^ s % W64 + low : Nat) : Int) := by
        have e : (x : Int) * 2 ^ s = ((x * 2 ^ s : Nat) : Int) := by simp
        rw [e, wrap_u64_nat, u64_or_nat _ _ (by rw [← W64_eq]; omega) (by rw [← W64_eq]; exact Nat.mod_lt _ W64_pos), Nat.or_comm, hd4]
      have e2 : (x : Int) / 2 / 2 ^ (63 - s) = ((x / 2 ^ (64 - s) : Nat) : Int) := by
        rw [show 64 - s = 63 - s + 1 by omega, Nat.pow_succ, Nat.mul_comm, ← Nat.div_div_eq_div_mul]; simp
      have hcl := HROW.out.cell (k := i) (by rw [HO.out]; omega)
      have hfl := HROW.out.free i
      have hfl2 := HROW.out.free (i + 1)
      rw [hlow] at hcl
      have HST := Lib.hid (shift_state (P := W64 ^ i) (b := val (xs.take i)) (a := val (os.take i)) hd3 (by
        have h := HV.out
        rw [val_take_step os, hlow] at h
        exact h))
      have HD := Lib.hid (And.intro hd1 hd2)
      have HX := Lib.hid (And.intro hx hlow)
      obtain ⟨d, hd⟩ : ∃ d, x * 2 ^ s % W64 + low = d := ⟨_, rfl⟩
      obtain ⟨t, ht⟩ : ∃ t, x / 2 ^ (64 - s) = t := ⟨_, rfl⟩
      rw [hd] at e1 HST HD
      rw [ht] at e2 HST HD
      have hiI : (i : Int) < (xs.length : Int) := by omega
      have r1 := later_cell hcl
      clear hd1 hd2 hd3 hd4 hx hlow hlw hpow hd ht hlt hi
      go_upto_region 5 with (fail)
      go_region_with (fail)
      obtain ⟨W5, hW5⟩ : ∃ W, (wr.setCell ⟨w.heap.size, i, none⟩ (.int .u64 (d : Int))).drew = W := ⟨_, rfl⟩
      have HROW5 := Lib.hid (show Row W5 w.heap.size (os.set i d) by rw [← hW5]; exact ((HROW.out.set (by rw [HO.out]; omega) HD.out.1).drewN 1))
      have HF5 := Lib.hid (show Fresh W5 w.heap.size (some ⟨w.heap.size, 0, none⟩) (xs.length + 1) by rw [← hW5]; exact (HF.out.set w.heap.size i (.int .u64 (d : Int))).below (below_drewN (Below.refl _ _) 1))
      have HB5 := Lib.hid (show Below w.heap.size w W5 by rw [← hW5]; exact below_drewN (HB.out.setCell (p := ⟨w.heap.size, i, none⟩) (Nat.le_refl _) _) 1)
      rw [hW5]
      clear hW5 r1 hfl hfl2 hcl hcell
      have hf2 := HROW5.out.free (i + 1)
      have HTW := Lib.hid (show t < W64 from Nat.lt_of_lt_of_le HD.out.2 (by rw [W64_two]; exact Nat.pow_le_pow_right (by omega) (by have := HS0.out; omega)))
      have hc2 := HROW5.out.cell (k := i + 1) (by rw [List.length_set, HO.out]; omega)
      have HROW6 := Lib.hid (HROW5.out.set (k := i + 1) (x := t) (by rw [List.length_set, HO.out]; omega) HTW.out)
      have HF6 := Lib.hid (HF5.out.set w.heap.size (i + 1) (.int .u64 (t : Int)))
      have HB6 := Lib.hid (HB5.out.setCell (p := ⟨w.heap.size, i + 1, none⟩) (Nat.le_refl _) (.int .u64 (t : Int)))
      have HL6 := Lib.hid (show ((os.set i d).set (i + 1) t).length = xs.length + 1 by rw [List.length_set, List.length_set, HO.out])
      go_wp2_with fail
      refine ⟨⟨i + 1, _, by omega, by go_num, HL6, HROW6, HF6, HB6, Lib.hid ?_, Lib.hid ?_⟩, by simp [intOf]; omega⟩
      · rw [List.getD_eq_getElem?_getD, List.getElem?_set_self (by rw [List.length_set, HO.out]; omega)]; exact HD.out.2
      · rw [val_take_two _ _ _ _ (by rw [HO.out]; omega), val_take_step xs, HX.out.1]
        exact HST.out
    · obtain rfl : i = xs.length := by omega
      have HFIN := Lib.hid (show val os = val xs * 2 ^ s by
        have h := HV.out
        rwa [List.take_of_length_le (by rw [HO.out]; omega), List.take_of_length_le (Nat.le_refl _)] at h)
      go_wp2_with fail
      go_ret
      exact ⟨w.heap.size, os, rfl, ⟨Nat.le_refl _, HROW.out.lt⟩, HO.out, HROW.out, HF.out, HFIN.out, HB.out⟩
theorem part_raw {neg : Bool} {n : Nat} (h : n ≠ 0) : rawOf (signed neg n) = (neg, limbs n) := by
  unfold rawOf
  rw [signed_natAbs]
  cases neg <;> simp [signed] <;> omega
theorem part_zero (neg : Bool) : rawOf (signed neg 0) = (false, []) := by
  unfold rawOf
  rw [signed_natAbs, limbs_zero]
  cases neg <;> simp [signed]
set_option maxRecDepth 100000 in
theorem divide_made (neg : Bool) (v : Value) (n base : Nat) (w : World) (h : Part w base v n) :
    Calls Tryz.prog 153 #[.bool neg, v] w fun e w' => ∃ u, e = .returned u ∧ RawAt w' base u (rawOf (signed neg n)) ∧ (∀ b, blockOf u = some b → blockOf v = some b) ∧ Below w.heap.size w w' := by
  obtain ⟨A, c, xs, rfl, hc, hl, hlim, hf, hv⟩ := h
  have HV := Lib.hid hv
  have HL := Lib.hid hl
  have HLIM := Lib.hid hlim
  have HF := Lib.hid hf
  have HC := Lib.hid hc
  clear hv hl hlim hf hc
  go_enter Tryz.func153, Tryz.ntmps153
  go_wp2_with fail
  obtain ⟨W0, g, hW, hg, bx, hbw, -⟩ := box_new w (.bool false) (.slice none 0 0)
  have hb0 : Below w.heap.size w W0 := by rw [hg]; exact hbw
  have HB0 := Lib.hid hb0
  have HL0 := Lib.hid ((HLIM.out.below hb0).more hb0.size)
  have HF0 := Lib.hid (HF.out.below hb0)
  rw [hW, hg]
  have HG := Lib.hid (show w.heap.size ≤ g by omega)
  clear hW hg hbw hb0
  refine (divide_trim _ _ _ _ HL0.out HC.out (by have := HL.out; omega)).mono ?_
  rintro e w1 ⟨rfl, rfl⟩
  have hlc := lc_val HLIM.out.small
  have ht := HL0.out.trim
  rw [HV.out] at ht hlc ⊢
  obtain ⟨m, hm⟩ : ∃ m, (limbs n).length = m := ⟨_, rfl⟩
  have HM := Lib.hid hm
  rw [hm]
  have hmc : m ≤ c := by have := HC.out; have h2 : (limbs n).length ≤ xs.length := hlc; omega
  have HT := Lib.hid ht
  have HMC := Lib.hid hmc
  have a0 := bx.cell0
  have a1 := bx.cell1
  have fr := bx.free
  clear ht hlc hm hmc
  by_cases h0 : n = 0
  · obtain rfl : m = 0 := by rw [← HM.out, h0, limbs_zero]; rfl
    go_wp2_with fail
    refine bodyPost_ret (results_cell_row rfl _ _ g 24 #[.bool false, (.slice none 0 0)] (0, 0) _ (by rfl) bx.store Tryz.underlying24 rfl (by kernel_rfl)) rfl ?_
    subst h0
    rw [part_zero]
    exact ⟨_, rfl, RawAt.zero _ _, (fun b h => by cases h), store2_below HB0.out HG.out⟩
  · have h1 : ((m : Int) == 0) = false := by
      rw [beq_eq_false_iff_ne]
      intro h
      have h2 : (limbs n).length = 0 := by rw [HM.out]; omega
      exact h0 (limbs_eq_nil.1 (List.eq_nil_of_length_eq_zero h2))
    have HN := Lib.hid h0
    clear h0
    go_wp2_with fail
    refine bodyPost_ret (results_cell_row rfl _ _ g 24 #[.bool neg, (.slice A m m)] (0, 0) _ (by rfl) bx.store Tryz.underlying24 rfl (by kernel_rfl)) rfl ?_
    rw [part_raw HN.out]
    have hraw : RawAt W0 base (.agg #[.bool neg, .slice A m m]) (neg, limbs n) := ⟨A, m, m, rfl, HM.out.symm, Nat.le_refl _, HT.out, HF0.out.cut HMC.out⟩
    exact ⟨_, rfl, hraw.store2 bx.nums _ _, (fun b h => by cases A <;> exact h), store2_below HB0.out HG.out⟩
end Go.Proofs.YtjbagikfogejnaaGreatDoor
/- Long division, plain: the loop that gives back. -/
namespace Go.Proofs.YtjbagikfogejnaaGreatDoor
theorem top_zero {win : List Nat} {n : Nat} (hl : win.length = n + 1) (h : val win < W64 ^ n) : win.getD n 0 = 0 := by
  have h1 := val_split win n (by omega)
  have h2 := val_drop_step win n (by omega)
  rw [List.drop_of_length_le (i := n + 1) (by omega), val_nil, Nat.mul_zero, Nat.add_zero] at h2
  rw [h2] at h1
  rcases Nat.eq_zero_or_pos (win.getD n 0) with h0 | h0
  · exact h0
  · have := Nat.mul_le_mul_left (W64 ^ n) (show 1 ≤ win.getD n 0 from h0)
    omega
theorem top_pos {win : List Nat} {n : Nat} (hs : Small win) (hl : win.length = n + 1) (h : W64 ^ n ≤ val win) : win.getD n 0 ≠ 0 := by
  intro h0
  have h1 := val_split win n (by omega)
  have h2 := val_drop_step win n (by omega)
  rw [List.drop_of_length_le (i := n + 1) (by omega), val_nil, Nat.mul_zero, Nat.add_zero, h0] at h2
  rw [h2, Nat.mul_zero, Nat.add_zero] at h1
  have h3 := val_lt (hs.take n)
  rw [List.length_take, Nat.min_eq_left (by omega)] at h3
  omega
theorem getD_win (os : List Nat) (p n k : Nat) (h : k < n) : ((os.drop p).take n).getD k 0 = os.getD (p + k) 0 := by
  simp only [List.getD_eq_getElem?_getD, List.getElem?_take, if_pos h, List.getElem?_drop]
theorem win_lt {os : List Nat} (hs : Small os) {p n : Nat} (hp : p + n ≤ os.length) : val ((os.drop p).take n) < W64 ^ n := by
  have h := val_lt ((hs.drop p).take n)
  rwa [List.length_take, List.length_drop, Nat.min_eq_left (by omega)] at h
/-- The loop that gives the divisor back, while the window is below 0. -/
structure Giving (us os : List Nat) (p n V q : Nat) : Prop where
  len : os.length = us.length
  tk : os.take p = us.take p
  dr : os.drop (p + (n + 3)) = us.drop (p + (n + 3))
  sum : val ((os.drop p).take (n + 3)) + q * V = val ((us.drop p).take (n + 3)) + W64 ^ (n + 3)
  close : q * V < val ((us.drop p).take (n + 3)) + W64 ^ (n + 2)
theorem Giving.pos {us os : List Nat} {p n V q : Nat} (h : Giving us os p n V q) (hs : Small os) (hp : p + (n + 3) ≤ us.length) : 1 ≤ q := by
  have h1 := win_lt hs (p := p) (n := n + 3) (by rw [h.len]; exact hp)
  have h2 := h.sum
  rcases Nat.eq_zero_or_pos q with h0 | h0
  · rw [h0, Nat.zero_mul] at h2; omega
  · exact h0
/-- What is told when the window is right. -/
structure Given (us os : List Nat) (p n V q : Nat) : Prop where
  len : os.length = us.length
  tk : os.take p = us.take p
  dr : os.drop (p + (n + 3)) = us.drop (p + (n + 3))
  rest : val ((os.drop p).take (n + 3)) = val ((us.drop p).take (n + 3)) % V
  quo : q = val ((us.drop p).take (n + 3)) / V
theorem div_of_sum {a q V m : Nat} (h : a + q * V = m) (ha : a < V) : a = m % V ∧ q = m / V := by
  subst h
  constructor
  · rw [Nat.add_mul_mod_self_right, Nat.mod_eq_of_lt ha]
  · rw [Nat.add_mul_div_right _ _ (by omega), Nat.div_eq_of_lt ha, Nat.zero_add]
theorem Giving.step {us os os' : List Nat} {p n V q c : Nat} (h : Giving us os p n V q) (hs : Small os) (hs' : Small os') (hp : p + (n + 3) ≤ us.length) (hVl : V < W64 ^ (n + 2))
    (hlen : os'.length = os.length) (htk : os'.take p = os.take p) (hdr : os'.drop (p + (n + 3)) = os.drop (p + (n + 3)))
    (hv : val ((os'.drop p).take (n + 3)) + W64 ^ (n + 3) * c = val ((os.drop p).take (n + 3)) + V) (hc : c ≤ 1) :
    (os'.getD (p + (n + 2)) 0 ≠ 0 ∧ Giving us os' p n V (q - 1)) ∨ (os'.getD (p + (n + 2)) 0 = 0 ∧ Given us os' p n V (q - 1)) := by
  have hq := h.pos hs hp
  have h1 := win_lt hs (p := p) (n := n + 3) (by rw [h.len]; exact hp)
  have hl' : os'.length = us.length := hlen.trans h.len
  have hwl : ((os'.drop p).take (n + 3)).length = n + 2 + 1 := by rw [List.length_take, List.length_drop]; omega
  have hg := getD_win os' p (n + 3) (n + 2) (by omega)
  have hsw : Small ((os'.drop p).take (n + 3)) := (hs'.drop p).take (n + 3)
  have hsum := h.sum
  have hcl := h.close
  have hW3 : 2 * W64 ^ (n + 2) ≤ W64 ^ (n + 3) := by
    rw [Nat.pow_succ W64 (n + 2), Nat.mul_comm 2]
    exact Nat.mul_le_mul_left _ (by rw [W64_eq]; omega)
  obtain ⟨r, rfl⟩ : ∃ r, q = r + 1 := ⟨q - 1, by omega⟩
  rw [Nat.add_sub_cancel]
  rw [Nat.add_mul, Nat.one_mul] at hsum hcl
  have hc2 : c = 0 ∨ c = 1 := by omega
  rcases hc2 with rfl | rfl
  · rw [Nat.mul_zero, Nat.add_zero] at hv
    refine .inl ⟨?_, ⟨hl', htk.trans h.tk, hdr.trans h.dr, by omega, by omega⟩⟩
    rw [← hg]
    exact top_pos hsw hwl (by omega)
  · rw [Nat.mul_one] at hv
    have h5 := div_of_sum (a := val ((os'.drop p).take (n + 3))) (q := r) (V := V) (m := val ((us.drop p).take (n + 3))) (by omega) (by omega)
    refine .inr ⟨?_, ⟨hl', htk.trans h.tk, hdr.trans h.dr, h5.1, h5.2⟩⟩
    rw [← hg]
    exact top_zero hwl (by omega)
/-- What was taken away at first. -/
theorem taken {us os : List Nat} {p n V q b : Nat} (hlen : os.length = us.length) (htk : os.take p = us.take p) (hdr : os.drop (p + (n + 3)) = us.drop (p + (n + 3)))
    (hv : val ((os.drop p).take (n + 3)) + q * V = val ((us.drop p).take (n + 3)) + W64 ^ (n + 3) * b) (hb : b ≤ 1) (hQ : val ((us.drop p).take (n + 3)) / V ≤ q) (hcl : q * V < val ((us.drop p).take (n + 3)) + W64 ^ (n + 2)) (hV : 0 < V) :
    (b = 0 ∧ Given us os p n V q) ∨ (b = 1 ∧ Giving us os p n V q) := by
  have hb2 : b = 0 ∨ b = 1 := by omega
  rcases hb2 with rfl | rfl
  · rw [Nat.mul_zero, Nat.add_zero] at hv
    have h1 := Nat.lt_div_mul_add (a := val ((us.drop p).take (n + 3))) hV
    have h2 := Nat.mul_le_mul_right V hQ
    have h5 := div_of_sum (a := val ((os.drop p).take (n + 3))) (q := q) (V := V) (m := val ((us.drop p).take (n + 3))) (by omega) (by omega)
    exact .inl ⟨rfl, ⟨hlen, htk, hdr, h5.1, h5.2⟩⟩
  · rw [Nat.mul_one] at hv
    exact .inr ⟨rfl, ⟨hlen, htk, hdr, hv, hcl⟩⟩
theorem long_start {xs ys : List Nat} (hx : Small xs) (hy : Small ys) {lb D : Nat} (hyl : ys.length = lb + 2) (hxl : xs.length = D + (lb + 2)) (ht : ys.getD (lb + 1) 0 ≠ 0) :
    64 - bitLen (ys.getD (lb + 1) 0) < 64 ∧ val ys * 2 ^ (64 - bitLen (ys.getD (lb + 1) 0)) < W64 ^ (lb + 2) ∧ W64 ^ (lb + 1) ≤ val ys * 2 ^ (64 - bitLen (ys.getD (lb + 1) 0)) ∧ 0 < val ys ∧
    val xs * 2 ^ (64 - bitLen (ys.getD (lb + 1) 0)) < W64 ^ (D + 1) * (val ys * 2 ^ (64 - bitLen (ys.getD (lb + 1) 0))) := by
  have hn : Norm ys := .inr (by rw [hyl]; exact ht)
  have he := eq_limbs hy hn
  have hlc : lc (val ys) = lb + 2 := by unfold lc; rw [← he]; exact hyl
  have hge : W64 ^ (lb + 1) ≤ val ys := by
    rcases Nat.lt_or_ge (val ys) (W64 ^ (lb + 1)) with h | h
    · have := lc_le.2 h; omega
    · exact h
  have hpos : 0 < val ys := Nat.lt_of_lt_of_le (Nat.pow_pos W64_pos) hge
  obtain ⟨s, t, h1, h2, h3, h4, h5, _, _⟩ := moved_lc (m := val ys) (n := val ys) (by omega) (Nat.le_refl _)
  rw [hlc, ← he] at h1
  have h1' : ys.getD (lb + 1) 0 = t := h1
  rw [h1', h3]
  rw [hlc] at h5
  have hp : 1 ≤ 2 ^ s := Nat.pow_pos (by omega)
  refine ⟨by omega, lc_le.1 (by omega), Nat.le_trans hge (Nat.le_mul_of_pos_right _ hp), hpos, ?_⟩
  rw [← Nat.mul_assoc]
  refine Nat.mul_lt_mul_of_pos_right ?_ hp
  have h6 := val_lt hx
  rw [hxl, show D + (lb + 2) = (D + 1) + (lb + 1) by omega, Nat.pow_add] at h6
  exact Nat.lt_of_lt_of_le h6 (Nat.mul_le_mul_left _ hge)
end Go.Proofs.YtjbagikfogejnaaGreatDoor
/- The package divide: long. -/
namespace Go.Proofs.YtjbagikfogejnaaGreatDoor
open Go.RowKit Go.Deep
theorem Row.stay {w w' : World} {g : Nat} {os : List Nat} (h : Row w g os) (hb : Below w.heap.size w w') : Row w' g os := h.call hb
theorem wraps_eq {a : Int} {m : Nat} (h : a = (m : Int)) (hm : m < 9223372036854775808) : IntKind.i64.wrap a = (m : Int) ∧ wrap64 a = (m : Int) := by
  subst h
  have h : IntKind.i64.wrap (m : Int) = (m : Int) := by rw [IntKind.wrap_i64]; omega
  exact ⟨h, by unfold wrap64; omega⟩
theorem long_index {j n D la lb : Nat} (hn : lb + 2 = n) (hla : la = D + (lb + 2)) (hj : j + 1 ≤ D + 1) (hl : la ≤ 549755813888) :
    ∃ m2 m1 m0 n1 : Nat, j + (lb + 2) = m2 ∧ j + (lb + 1) = m1 ∧ j + lb = m0 ∧ lb + 1 = n1 ∧ (j : Int) < (D : Int) + 1 ∧ (m2 : Int) < (la : Int) + 1 ∧ (m1 : Int) < (la : Int) + 1 ∧ (m0 : Int) < (la : Int) + 1 ∧ (n1 : Int) < (n : Int) ∧ (lb : Int) < (n : Int) ∧ (j : Int) ≤ 549755813888 ∧
      (IntKind.i64.wrap ((j : Int) + (n : Int)) = (m2 : Int) ∧ wrap64 ((j : Int) + (n : Int)) = (m2 : Int)) ∧
      (IntKind.i64.wrap ((m2 : Int) - 1) = (m1 : Int) ∧ wrap64 ((m2 : Int) - 1) = (m1 : Int)) ∧
      (IntKind.i64.wrap ((m2 : Int) - 2) = (m0 : Int) ∧ wrap64 ((m2 : Int) - 2) = (m0 : Int)) ∧
      (IntKind.i64.wrap ((n : Int) - 1) = (n1 : Int) ∧ wrap64 ((n : Int) - 1) = (n1 : Int)) ∧
      (IntKind.i64.wrap ((n : Int) - 2) = (lb : Int) ∧ wrap64 ((n : Int) - 2) = (lb : Int)) :=
  ⟨_, _, _, _, rfl, rfl, rfl, rfl, by omega, by omega, by omega, by omega, by omega, by omega, by omega, wraps_eq (by omega) (by omega), wraps_eq (by omega) (by omega), wraps_eq (by omega) (by omega), wraps_eq (by omega) (by omega), wraps_eq (by omega) (by omega)⟩
theorem Ext.of_nix {w w' : World} (h : Below w.heap.size w w') : Ext Nix w w' := ⟨h.os, h.tape, h.output, h.size, fun i hi _ => h.block i hi, fun _ h => h.elim⟩
/-- The numbers of the long division. -/
structure DSum (V M j : Nat) (us os : List Nat) : Prop where
  less : val (us.drop j) < V
  sum : M = val us + val (os.drop j) * W64 ^ j * V
theorem long_taken {us us1 vs os : List Nat} {j lb V q b M : Nat} (hs : Small us) (hvs : Small vs) (hvl : vs.length = lb + 2) (hV : val vs = V) (hVp : 0 < V) (hVl : V < W64 ^ (lb + 2)) (hul : j + (lb + 3) ≤ us.length) (S : DSum V M (j + 1) us os)
    {u2 u1 u0 v1 v0 : Nat} (hu : us.getD (j + (lb + 2)) 0 = u2 ∧ us.getD (j + (lb + 1)) 0 = u1 ∧ us.getD (j + lb) 0 = u0 ∧ vs.getD (lb + 1) 0 = v1 ∧ vs.getD lb 0 = v0) (G : Guess u2 u1 u0 v1 v0 q)
    (hlen : us1.length = us.length) (htk : us1.take j = us.take j) (hdr : us1.drop (j + (lb + 3)) = us.drop (j + (lb + 3))) (hv : val ((us1.drop j).take (lb + 3)) + q * val vs = val ((us.drop j).take (lb + 3)) + W64 ^ (lb + 3) * b) (hb : b ≤ 1) :
    (b = 0 ∧ Given us us1 j lb V q) ∨ (b = 1 ∧ Giving us us1 j lb V q) := by
  obtain ⟨h1, _⟩ := over_win (lb := lb + 2) hs hul hVl S.less
  obtain ⟨e2, e1, e0, e4, e3⟩ := hu
  have hwl : ((us.drop j).take (lb + 3)).length = lb + 3 := by rw [List.length_take, List.length_drop]; omega
  have hg := guess_window ((hs.drop j).take (lb + 3)) hvs hvl hwl (g := q) (by
    rw [getD_win us j (lb + 3) (lb + 2) (by omega), getD_win us j (lb + 3) (lb + 1) (by omega), getD_win us j (lb + 3) lb (by omega), e2, e1, e0, e4, e3]; exact G) (by rw [hV]; exact h1)
  rw [hV] at hg hv
  exact taken hlen htk hdr hv hb hg.1 hg.2 hVp
theorem long_given {us us1 os : List Nat} {j lb V q M : Nat} (hs : Small us) (hVp : 0 < V) (hVl : V < W64 ^ (lb + 2)) (hul : j + (lb + 3) ≤ us.length) (hj : j < os.length) (S : DSum V M (j + 1) us os) (G : Given us us1 j lb V q) : DSum V M j us1 (os.set j q) := by
  obtain ⟨h1, h2⟩ := over_step (lb := lb + 2) hs G.len hul hVp hVl S.less S.sum G.quo G.tk G.dr G.rest hj
  exact ⟨h1, h2⟩
theorem top_none {us : List Nat} {k : Nat} (hk : k < us.length) (h : val us < W64 ^ k) : val (us.take k) = val us ∧ us.getD k 0 = 0 := by
  have h1 := val_split us k (by omega)
  have h2 := val_drop_step us k hk
  have h0 : val (us.drop k) = 0 := by
    rcases Nat.eq_zero_or_pos (val (us.drop k)) with h3 | h3
    · exact h3
    · have := Nat.mul_le_mul_left (W64 ^ k) h3
      omega
  rw [h0] at h1 h2
  constructor
  · omega
  · omega
theorem rest_limb {k x y s : Nat} (hx : x < W64) (hs : s < 64) (hk : k ≤ 549755813888) :
    ∃ k1 t63 xd y2 yd d : Nat, k + 1 = k1 ∧ IntKind.i64.wrap ((k : Int) + 1) = (k1 : Int) ∧ IntKind.i64.wrap ((63 : Int) - (s : Int)) = (t63 : Int) ∧ (x : Int) / 2 ^ s = (xd : Int) ∧ IntKind.u64.wrap ((y : Int) * 2) = (y2 : Int) ∧ IntKind.u64.wrap ((y2 : Int) * 2 ^ min t63 64) = (yd : Int) ∧
      bits .or .u64 (xd : Int) (yd : Int) = (d : Int) ∧ d < W64 ∧ d * 2 ^ s + x % 2 ^ s = x + W64 * (y % 2 ^ s) := by
  obtain ⟨h1, h2, h3⟩ := shr_step (y := y) hx hs
  have e1 : IntKind.u64.wrap ((y : Int) * 2) = ((y * 2 % W64 : Nat) : Int) := by
    have e : (y : Int) * 2 = ((y * 2 : Nat) : Int) := by simp
    rw [e, wrap_u64_nat]
  have e2 : IntKind.u64.wrap (((y * 2 % W64 : Nat) : Int) * 2 ^ (63 - s)) = ((y * 2 ^ (64 - s) % W64 : Nat) : Int) := by
    have e : ((y * 2 % W64 : Nat) : Int) * 2 ^ (63 - s) = ((y * 2 % W64 * 2 ^ (63 - s) : Nat) : Int) := by simp
    rw [e, wrap_u64_nat]
    congr 1
    rw [Nat.mod_mul_mod, Nat.mul_assoc, show 64 - s = (63 - s) + 1 by omega, Nat.pow_succ, Nat.mul_comm 2]
  have e3 : IntKind.i64.wrap ((63 : Int) - (s : Int)) = ((63 - s : Nat) : Int) := (wraps_eq (m := 63 - s) (by omega) (by omega)).1
  exact ⟨_, _, x / 2 ^ s, _, y * 2 ^ (64 - s) % W64, _, rfl, (wraps_eq (m := k + 1) (by omega) (by omega)).1, e3, by rw [Int.natCast_ediv, Int.natCast_pow]; rfl, e1, by rw [Nat.min_eq_left (by omega)]; exact e2, by
    rw [u64_or_nat _ _ (by rw [← W64_eq]; exact Nat.lt_of_le_of_lt (Nat.div_le_self _ _) hx) (by rw [← W64_eq]; exact Nat.mod_lt _ W64_pos), h3], h1, h2⟩
theorem rest_join {a b c P W R d x xm ym : Nat} (h : a * R + c = b + P * xm) (hd : d * R + xm = x + W * ym) : (a + P * d) * R + c = b + P * x + P * W * ym := by
  have : P * (d * R + xm) = P * (x + W * ym) := by rw [hd]
  grind
theorem Row.grew {w w' : World} {g gr : Nat} {os : List Nat} (h : Row w g os) (hg : w.grownBy w' (some gr)) (hne : g ≠ gr) : Row w' g os := h.of_block (hg.block g h.lt (by intro e; injection e; omega))
theorem getD_set_at {os : List Nat} {j g : Nat} (h : j < os.length) : (os.set j g).getD j 0 = g := by rw [List.getD_eq_getElem?_getD, List.getElem?_set_self h]; rfl
theorem Fresh.grown {w w' : World} {base g c : Nat} {A : Option Addr} (h : Fresh w base A c) (hg : w.grownBy w' (some g)) (hne : ∀ ad, A = some ad → ad.block ≠ g) : Fresh w' base A c := by
  rcases h with h | ⟨k, cs, h1, h2, h3, h4⟩
  · exact .inl h
  · exact .inr ⟨k, cs, h1, h2, by rw [hg.block k (Array.getElem?_eq_some_iff.1 h3).1 (by intro e; injection e with e; exact hne _ h1 e)]; exact h3, h4⟩
theorem Row.lim' {w : World} {g : Nat} {os : List Nat} (h : Row w g os) : Lim w w.heap.size (some ⟨g, 0, none⟩) os := h.lim h.lt
/-- The memory of the long division. -/
structure DMem (w wr : World) (gu gv gq la D n : Nat) (vs us os : List Nat) : Prop where
  ru : Row wr gu us
  lu : us.length = la + 1
  ro : Row wr gq os
  lo : os.length = D + 1
  fq : Fresh wr w.heap.size (some ⟨gq, 0, none⟩) (D + 1)
  bel : Below w.heap.size w wr
  rv : Row wr gv vs
  lv : vs.length = n
  base : w.heap.size ≤ gu
  ne1 : gu < gv
  ne2 : gv < gq
section
variable {w wr w' : World} {gu gv gq la D n : Nat} {vs us os us' : List Nat}
theorem DMem.stay (h : DMem w wr gu gv gq la D n vs us os) (hb : Below wr.heap.size wr w') : DMem w w' gu gv gq la D n vs us os :=
  ⟨h.ru.call hb, h.lu, h.ro.call hb, h.lo, h.fq.below hb, h.bel.trans (hb.mono h.bel.size), h.rv.call hb, h.lv, h.base, h.ne1, h.ne2⟩
theorem DMem.setq (h : DMem w wr gu gv gq la D n vs us os) {j g : Nat} (hj : j < D + 1) (hg : g < W64) : DMem w (wr.setCell ⟨gq, j, none⟩ (.int .u64 (g : Int))) gu gv gq la D n vs us (os.set j g) :=
  ⟨h.ru.far (p := ⟨gq, j, none⟩) (by have := h.ne1; have := h.ne2; show gu ≠ gq; omega) _, h.lu, h.ro.set (by rw [h.lo]; exact hj) hg, by rw [List.length_set, h.lo], h.fq.set gq j _,
    h.bel.setCell (p := ⟨gq, j, none⟩) (by have := h.base; have := h.ne1; have := h.ne2; show w.heap.size ≤ gq; omega) _, h.rv.far (p := ⟨gq, j, none⟩) (by have := h.ne2; show gv ≠ gq; omega) _, h.lv, h.base, h.ne1, h.ne2⟩
theorem DMem.grown (h : DMem w wr gu gv gq la D n vs us os) (hg : wr.grownBy w' (some gu)) (hr : Row w' gu us') (hl : us'.length = us.length) : DMem w w' gu gv gq la D n vs us' os := by
  have e1 := h.ne1
  have e2 := h.ne2
  have eq : w'.heap[gq]? = wr.heap[gq]? := hg.block gq h.ro.lt (by intro e; injection e; omega)
  refine ⟨hr, hl.trans h.lu, h.ro.of_block eq, h.lo, h.fq.grown hg (fun _ e => by injection e with e; subst e; exact (Nat.ne_of_lt (Nat.lt_trans e1 e2)).symm), below_grown h.bel h.bel.size hg h.base, h.rv.of_block (hg.block gv h.rv.lt (by intro e; injection e; omega)), h.lv, h.base, h.ne1, h.ne2⟩
end
set_option maxHeartbeats 800000 in
set_option maxRecDepth 100000 in
theorem divide_long (A1 A2 : Option Addr) (c1 c2 D lb : Nat) (xs ys : List Nat) (w : World) (h1 : Lim w w.heap.size A1 xs) (h2 : Lim w w.heap.size A2 ys) (hyl : ys.length = lb + 2) (hxl : xs.length = D + (lb + 2)) (hl : xs.length ≤ 549755813888) (ht : ys.getD (lb + 1) 0 ≠ 0) :
    Calls Tryz.prog 179 #[.slice A1 xs.length c1, .slice A2 ys.length c2] w fun e w' => ∃ u v, e = .returned (.tuple #[u, v]) ∧ Part w' w.heap.size u (val xs / val ys) ∧ Part w' w.heap.size v (val xs % val ys) ∧ Sep u v ∧ Below w.heap.size w w' := by
  have HST := Lib.hid (long_start h1.small h2.small hyl hxl ht)
  obtain ⟨ad, rfl, hb, hcell⟩ := h2.at_ (k := lb + 1) (by omega)
  obtain ⟨t, htt⟩ : ∃ t, ys.getD (lb + 1) 0 = t := ⟨_, rfl⟩
  have htW : t < W64 := htt ▸ h2.small.getD _
  rw [htt] at hcell HST
  rw [add_succ] at hcell
  have hlz := Lib.hid (bits_lz64 t htW)
  obtain ⟨s, hs⟩ : ∃ s, 64 - bitLen t = s := ⟨_, rfl⟩
  rw [hs] at HST hlz
  have H1 := Lib.hid h1
  have H2 := Lib.hid h2
  have HL1 := Lib.hid (And.intro hxl hl)
  have HYL := Lib.hid hyl
  have lbI : (lb : Int) + 2 ≤ 549755813888 := by omega
  have hsh1 := divide_shifted A1 c1 xs s
  have hsh2 := divide_shifted (some ad) c2 ys s
  rw [hyl] at hsh2 ⊢
  have HS1 := Lib.hid hsh1
  have HS2 := Lib.hid hsh2
  clear hsh1 hsh2
  have rD : (xs.length : Int) - ((lb : Int) + 2) = (D : Int) := by omega
  have hxI : (xs.length : Int) ≤ 549755813888 := by omega
  have hDI : (D : Int) ≤ 549755813888 := by omega
  have hmk := make_limbs_succ D (by omega)
  clear hl htt ht hs h1 h2 hb hyl htW hxl
  go_enter Tryz.func179, Tryz.ntmps179
  go_wp2_with fail
  go_step3
  go_wp2_with fail
  refine (hlz.out _).mono ?_
  rintro e w1 ⟨rfl, rfl⟩
  clear hcell
  go_upto_region 3 with (fail)
  refine wp_region_stages (fun w' => ∃ δ : Later Nix w, w' = δ.world) [(false, 0), (false, 1), (false, 3), (false, 4), (false, 6), (true, 2), (true, 5), (false, 7), (false, 8)] 9 [.reads [_, _, _, _, _], .loud _, .loud _, .reads [_, _]] [_] (by kernel_rfl) (by kernel_rfl) rfl rfl ?_ ?_
  · exact ⟨⟨_, nix_drawn w⟩, rfl⟩
  refine wpStages_reads ?_
  repeat (go_big_quiet_step (fail))
  refine wpQuiet_nil ?_
  refine wpStages_loud rfl ?_
  intro K hK
  go_big_op
  have ex : Ext Nix w (w.drewN 1) := nix_drawn w
  have hb : Below w.heap.size w (w.drewN 1) := below_drewN (Below.refl _ _) 1
  replace H1 := Lib.hid (H1.out.stay hb)
  replace H2 := Lib.hid (H2.out.stay hb)
  clear hb
  refine ((HS1.out _ (Nat.le_refl _) H1.out (by have := HL1.out; omega) HST.out.1)).mono ?_
  rintro e w1 ⟨gu, us0, rfl, hgu, hul, hrow, hfr, hval, hb⟩
  replace ex : Ext Nix w w1 := ex.later (Ext.of_below hb)
  replace H2 := Lib.hid (H2.out.stay hb)
  clear hb
  refine hK _ _ ⟨⟨_, ex⟩, rfl⟩ ?_
  clear hK K
  have HR1 := Lib.hid hrow
  have HUL := Lib.hid (And.intro hul hval)
  clear hfr hrow hul hval
  refine wpStages_loud rfl ?_
  intro K hK
  go_big_op
  refine ((HS2.out _ (Nat.le_refl _) H2.out (by have := HL1.out; have := HYL.out; omega) HST.out.1)).mono ?_
  rintro e w2 ⟨gv, vs0, rfl, hgv, hvl, hrow, hfr, hval, hb⟩
  replace ex : Ext Nix w w2 := ex.later (Ext.of_below hb)
  replace HR1 := Lib.hid (HR1.out.stay hb)
  clear hb
  refine hK _ _ ⟨⟨_, ex⟩, rfl⟩ ?_
  clear hK K
  have HRV := Lib.hid hrow
  have HVL := Lib.hid (And.intro hvl hval)
  have HGG := Lib.hid (show w.heap.size ≤ gu ∧ gu < gv by have h1 : w.heap.size ≤ gu := hgu.1; have h2 := hgu.2; have h3 := hgv.1; omega)
  clear hrow hfr hvl hval hgu hgv
  refine wpStages_reads ?_
  repeat (go_big_quiet_step (fail))
  refine wpQuiet_nil ?_
  refine wpStages_nil ?_
  have HB := Lib.hid (show Below w.heap.size w w2 from ex.below)
  go_upto_region 5 with (fail)
  go_step3
  obtain ⟨W4, gq, hW4, hgq⟩ : ∃ W gq, w2.alloc (.cells (madeCells #[.int .u64 0] (D + 1)) 41) = W ∧ w2.heap.size = gq := ⟨_, _, rfl, rfl⟩
  have hbq : Below w2.heap.size w2 W4 := by rw [← hW4]; exact (Below.refl _ _).alloc (Nat.le_refl _) _
  have HRQ := Lib.hid (show Row W4 gq (List.replicate (D + 1) 0) by rw [← hW4, ← hgq]; exact Row.made _ _)
  have HFQ := Lib.hid (show Fresh W4 w.heap.size (some ⟨gq, 0, none⟩) (D + 1) by rw [← hW4, ← hgq]; exact (Fresh.made w2 (D + 1)).since HB.out.size)
  have HGQ := Lib.hid (show gv < gq by rw [← hgq]; exact HRV.out.lt)
  rw [hW4, hgq]
  replace HR1 := Lib.hid (HR1.out.stay hbq)
  replace HRV := Lib.hid (HRV.out.stay hbq)
  replace HB := Lib.hid (HB.out.trans (hbq.mono HB.out.size))
  clear hW4 hgq hbq ex H1 H2 HS1 HS2 hlz hmk
  have HV0 := Lib.hid (show val (vs0.take (lb + 2)) = val ys * 2 ^ s by
    have h := HVL.out.2
    have h3 := val_split vs0 (lb + 2) (by rw [HVL.out.1]; omega)
    have h4 := HST.out.2.1
    rcases Nat.eq_zero_or_pos (val (vs0.drop (lb + 2))) with h0 | h0
    · rw [h0, Nat.mul_zero, Nat.add_zero] at h3; rw [← h3, h]
    · have h5 := Nat.mul_le_mul_left (W64 ^ (lb + 2)) (show 1 ≤ val (vs0.drop (lb + 2)) from h0)
      omega)
  have HRV2 := Lib.hid (HRV.out.take (lb + 2))
  obtain ⟨vs, hvs⟩ : ∃ l, vs0.take (lb + 2) = l := ⟨_, rfl⟩
  have HVS := Lib.hid (show vs.length = lb + 2 by rw [← hvs, List.length_take, HVL.out.1]; omega)
  rw [hvs] at HV0 HRV2
  clear hvs HRV HVL
  obtain ⟨n, hn⟩ : ∃ n : Nat, lb + 2 = n := ⟨_, rfl⟩
  have en : (lb : Int) + 2 = (n : Int) := by omega
  rw [en, hn]
  have nI : (n : Int) ≤ 549755813888 := by omega
  have nI2 : (2 : Int) ≤ (n : Int) := by omega
  have xI : (n : Int) ≤ (xs.length : Int) := by omega
  have HN := Lib.hid hn
  clear en hn lbI rD
  obtain ⟨V, hV⟩ : ∃ V, val ys * 2 ^ s = V := ⟨_, rfl⟩
  obtain ⟨M, hM⟩ : ∃ M, val xs * 2 ^ s = M := ⟨_, rfl⟩
  have HUM := Lib.hid (show us0.length = xs.length + 1 ∧ val us0 = M by rw [← hM]; exact HUL.out)
  have HST2 := Lib.hid HST.out
  rw [hV] at HV0 HST2
  rw [hM] at HST2
  have HVE := Lib.hid (And.intro hV hM)
  clear hV hM HUL HST
  go_wp2_with fail
  go_loopw [11] (fun t11 wr => ∃ (j : Nat) (us os : List Nat), j ≤ D + 1 ∧ t11 = .int .i64 ((j : Int) - 1) ∧ Hid (DMem w wr gu gv gq xs.length D n vs us os) ∧ Hid (DSum V M j us os)) (fun t11 _ => (intOf t11 + 1).toNat)
  case atStart =>
    have hdrop : val (us0.drop (D + 1)) < V := by
      have h3 := val_split us0 (D + 1) (by rw [HUM.out.1, HL1.out.1]; omega)
      rw [HUM.out.2] at h3
      exact Nat.lt_of_mul_lt_mul_left (a := W64 ^ (D + 1)) (by have := HST2.out.2.2.2.2; omega)
    exact ⟨D + 1, us0, List.replicate (D + 1) 0, by omega, by simp, Lib.hid ⟨HR1.out, HUM.out.1, HRQ.out, by simp, HFQ.out, HB.out, HRV2.out, by rw [HVS.out, HN.out], HGG.out.1, HGG.out.2, HGQ.out⟩, Lib.hid ⟨hdrop, by
      rw [List.drop_of_length_le (by simp), HUM.out.2]; simp⟩⟩
  case round =>
    clear HR1 HUM HRQ HFQ HB HRV2
    obtain ⟨j, us, os, hj, rfl, HD, HS⟩ := hrel
    rcases j with _ | j
    · have HQ := Lib.hid (show val os = val xs / val ys ∧ val us / 2 ^ s = val xs % val ys by
        have h3 := HS.out.sum
        have h4 := HS.out.less
        have h6 := HVE.out
        rw [List.drop_zero] at h3 h4
        rw [Nat.pow_zero, Nat.mul_one] at h3
        have h5 := div_moved (val xs) (val ys) s (by have := HST2.out.2.2.2.1; omega)
        rw [h6.1, h6.2] at h5
        have hV0 : 0 < V := by omega
        rw [← h5.1, ← h5.2, h3, Nat.mul_comm (val os), Nat.add_mul_div_left _ _ hV0, Nat.div_eq_of_lt h4, Nat.zero_add, Nat.add_mul_mod_self_left, Nat.mod_eq_of_lt h4]
        exact ⟨rfl, rfl⟩)
      have HFIN := Lib.hid (show val (us.take n) = val us ∧ us.getD n 0 = 0 ∧ us.length = xs.length + 1 by
        have h1 := HS.out.less
        rw [List.drop_zero] at h1
        exact ⟨(top_none (k := n) (by rw [HD.out.lu]; have := HL1.out.1; have := HN.out; omega) (Nat.lt_trans h1 (by rw [← HN.out]; exact HST2.out.2.1))).1, (top_none (k := n) (by rw [HD.out.lu]; have := HL1.out.1; have := HN.out; omega) (Nat.lt_trans h1 (by rw [← HN.out]; exact HST2.out.2.1))).2, HD.out.lu⟩)
      have hmk := make_limbs n (by omega)
      go_upto_region 14 with (fail)
      obtain ⟨W5, gr, hW5, hgr⟩ : ∃ W g, wr.alloc (.cells (madeCells #[.int .u64 0] n) 41) = W ∧ wr.heap.size = g := ⟨_, _, rfl, rfl⟩
      have hb5 : Below wr.heap.size wr W5 := by rw [← hW5]; exact (Below.refl _ _).alloc (Nat.le_refl _) _
      have HRR := Lib.hid (show Row W5 gr (List.replicate n 0) by rw [← hW5, ← hgr]; exact Row.made _ _)
      have HFR := Lib.hid (show Fresh W5 gr (some ⟨gr, 0, none⟩) n by rw [← hW5, ← hgr]; exact Fresh.made wr n)
      have HGR := Lib.hid (show gq < gr by rw [← hgr]; exact HD.out.ro.lt)
      rw [hW5, hgr]
      replace HD := Lib.hid (HD.out.stay hb5)
      clear hW5 hgr hb5 hmk
      have HSS := Lib.hid (show s < 64 from HST2.out.1)
      go_wp2_with fail
      go_loopw [109] (fun t109 w3 => ∃ (k : Nat) (rs : List Nat), k ≤ n ∧ t109 = .int .i64 (k : Int) ∧ Hid (rs.length = n) ∧ Hid (Row w3 gr rs) ∧ Hid (W5.grownBy w3 (some gr)) ∧ Hid (Fresh w3 gr (some ⟨gr, 0, none⟩) n) ∧ Hid (val (rs.take k) * 2 ^ s + us.getD 0 0 % 2 ^ s = val (us.take k) + W64 ^ k * (us.getD k 0 % 2 ^ s))) (fun t109 _ => n - (intOf t109).toNat)
      case atStart => exact ⟨0, List.replicate n 0, by omega, rfl, Lib.hid (by simp), HRR, Lib.hid ⟨rfl, rfl, rfl, Nat.le_refl _, fun _ _ _ => rfl⟩, HFR, Lib.hid (by simp)⟩
      case round =>
        clear HRR HFR
        obtain ⟨k, rs, hk, rfl, HRL, HRR, HG3, HFR, HV⟩ := hrel
        by_cases hkn : k < n
        · have hru := HD.out.ru.grew HG3.out (show gu ≠ gr by have := HGR.out; have := HD.out.ne1; have := HD.out.ne2; omega)
          obtain ⟨x, hx⟩ : ∃ x, us.getD k 0 = x := ⟨_, rfl⟩
          obtain ⟨y, hy⟩ : ∃ x, us.getD (k + 1) 0 = x := ⟨_, rfl⟩
          obtain ⟨k1, t63, xd, y2, yd, d, hk1, ek1, et, ex, ey2, eyd, ed, hdW, hstep⟩ := rest_limb (k := k) (x := x) (y := y) (by rw [← hx]; exact hru.small.getD k) HSS.out (show k ≤ 549755813888 by omega)
          have hcx := hru.cell (k := k) (by rw [HFIN.out.2.2]; omega)
          have hcy := hru.cell (k := k + 1) (by rw [HFIN.out.2.2]; omega)
          rw [hx] at hcx
          rw [hy, hk1] at hcy
          have r0 := later_cell hcx
          have r1 := later_cell hcy
          have kI : (k : Int) < (n : Int) := by omega
          have k1I : (k1 : Int) < (xs.length : Int) + 1 := by omega
          have kI2 : (k : Int) < (xs.length : Int) + 1 := by omega
          have sI : (s : Int) < 64 := by have := HSS.out; omega
          have HXY := Lib.hid (And.intro hx (And.intro hy hk1))
          have HDS := Lib.hid (And.intro hdW hstep)
          have hcr := HRR.out.cell (k := k) (by rw [HRL.out]; exact hkn)
          have hfr := HRR.out.free k
          clear hx hy hk1 hstep hdW hcx hcy
          go_upto_region 17 with (fail)
          refine wp_region_stages (fun w' => ∃ δ : Later Nix wr, w' = δ.world) [(false, 0), (false, 1), (false, 2), (false, 3), (false, 4), (false, 5), (false, 6), (false, 7), (false, 8), (false, 9), (false, 10), (false, 11), (false, 12), (false, 13), (false, 14), (false, 15), (false, 16), (false, 17), (false, 18)] 19 [.reads [_, _, _, _, _, _, _, _, _, _, _, _, _, _, _, _, _, _, _]] [_] (by kernel_rfl) (by kernel_rfl) rfl rfl ?_ ?_
          · exact ⟨⟨_, nix_drawn wr⟩, rfl⟩
          refine wpStages_reads ?_
          repeat (go_big_quiet_step (fail))
          refine wpQuiet_nil ?_
          refine wpStages_nil ?_
          have HSTEP := Lib.hid (show val ((rs.set k d).take (k + 1)) * 2 ^ s + us.getD 0 0 % 2 ^ s = val (us.take (k + 1)) + W64 ^ (k + 1) * (us.getD (k + 1) 0 % 2 ^ s) by
            have h1 := HXY.out
            rw [val_take_set rs k d (by rw [HRL.out]; exact hkn), val_take_step us, h1.1, h1.2.1, Nat.pow_succ]
            have h2 := HV.out
            rw [h1.1] at h2
            exact rest_join h2 HDS.out.2)
          have HR2 := Lib.hid (show Row ((wr.drewN 1).setCell ⟨gr, k, none⟩ (.int .u64 (d : Int))) gr (rs.set k d) from (HRR.out.drewN 1).set (by rw [HRL.out]; exact hkn) HDS.out.1)
          have HF4 := Lib.hid (show Fresh ((wr.drewN 1).setCell ⟨gr, k, none⟩ (.int .u64 (d : Int))) gr (some ⟨gr, 0, none⟩) n from (HFR.out.below (below_drewN (Below.refl _ _) 1)).set gr k _)
          have HG4 := Lib.hid (grownBy_trans HG3.out (grownBy_trans (drew_grown wr 1 (some gr)) (only_set (wr.drewN 1) ⟨gr, k, none⟩ (.int .u64 (d : Int)))))
          clear ek1 et ex ey2 eyd ed r0 r1 hru
          go_wp2_with fail
          exact ⟨⟨k + 1, _, by omega, by go_num, Lib.hid (by rw [List.length_set, HRL.out]), HR2, HG4, HF4, HSTEP⟩, by simp [intOf]; omega⟩
        · obtain rfl : k = n := by omega
          have HR := Lib.hid (show val rs = val us / 2 ^ s by
            have h := HV.out
            rw [List.take_of_length_le (l := rs) (by rw [HRL.out]; omega), HFIN.out.1, HFIN.out.2.1, Nat.zero_mod, Nat.mul_zero, Nat.add_zero] at h
            have h2 : us.getD 0 0 % 2 ^ s < 2 ^ s := Nat.mod_lt _ (Nat.pow_pos (by omega))
            rw [← h, Nat.mul_comm, Nat.mul_add_div (Nat.pow_pos (by omega)), Nat.div_eq_of_lt h2]; rfl)
          have kI : ¬ (k : Int) < (k : Int) := by omega
          go_wp2_with fail
          go_ret2
          have e5 := HGR.out
          have hq : Part wr w.heap.size (.slice (some ⟨gq, 0, none⟩) (D + 1) (D + 1)) (val xs / val ys) := by
            have h := Part.row (HD.out.ro.grew HG3.out (by omega)) (base := w.heap.size) (by rw [HD.out.lo]; exact HD.out.fq.grown HG3.out (fun _ e => by injection e with e; subst e; exact Nat.ne_of_lt e5)) (by rw [HD.out.lo]; omega)
            rw [HD.out.lo, HQ.out.1] at h
            exact h
          have hr : Part wr gr (.slice (some ⟨gr, 0, none⟩) k k) (val xs % val ys) := by
            have h := Part.row HRR.out (base := gr) (by rw [HRL.out]; exact HFR.out) (by rw [HRL.out]; omega)
            rw [HRL.out, HR.out, HQ.out.2] at h
            exact h
          have e6 := HD.out.ne1
          have e7 := HD.out.ne2
          have e8 := HD.out.base
          refine ⟨_, _, rfl, hq, hr.since (by omega), fun a b h1 h2 => by cases h1; cases h2; show gq ≠ gr; omega, below_grown HD.out.bel HD.out.bel.size HG3.out (by omega)⟩
    · have e1 : ((j + 1 : Nat) : Int) - 1 = (j : Int) := by omega
      rw [e1]
      have hul := HD.out.lu
      have hla := HL1.out.1
      have hVS := HVS.out
      have hcu2 := HD.out.ru.cell (k := j + (lb + 2)) (by omega)
      have hcu1 := HD.out.ru.cell (k := j + (lb + 1)) (by omega)
      have hcu0 := HD.out.ru.cell (k := j + lb) (by omega)
      have hcv1 := HD.out.rv.cell (k := lb + 1) (by have := HVS.out; omega)
      have hcv0 := HD.out.rv.cell (k := lb) (by have := HVS.out; omega)
      have hW2 := HD.out.ru.small.getD (j + (lb + 2))
      have hW1 := HD.out.ru.small.getD (j + (lb + 1))
      have hW0 := HD.out.ru.small.getD (j + lb)
      have hX1 := HD.out.rv.small.getD (lb + 1)
      have hX0 := HD.out.rv.small.getD lb
      have HSM := Lib.hid HD.out.ru.small
      have HUL := Lib.hid (show j + (lb + 3) ≤ us.length by omega)
      have HJO := Lib.hid (show j < os.length by have := HD.out.lo; omega)
      have HVV := Lib.hid (show 0 < V ∧ V < W64 ^ (lb + 2) from ⟨by have := HS.out.less; omega, HST2.out.2.1⟩)
      obtain ⟨u2, hu2⟩ : ∃ u, us.getD (j + (lb + 2)) 0 = u := ⟨_, rfl⟩
      obtain ⟨u1, hu1⟩ : ∃ u, us.getD (j + (lb + 1)) 0 = u := ⟨_, rfl⟩
      obtain ⟨u0, hu0⟩ : ∃ u, us.getD (j + lb) 0 = u := ⟨_, rfl⟩
      obtain ⟨v1, hv1⟩ : ∃ u, vs.getD (lb + 1) 0 = u := ⟨_, rfl⟩
      obtain ⟨v0, hv0⟩ : ∃ u, vs.getD lb 0 = u := ⟨_, rfl⟩
      rw [hu2] at hcu2 hW2
      rw [hu1] at hcu1 hW1
      rw [hu0] at hcu0 hW0
      rw [hv1] at hcv1 hX1
      rw [hv0] at hcv0 hX0
      have HVP := Lib.hid (show 0 < v1 by
        have h := top_pos (n := lb + 1) HD.out.rv.small (by have := HVS.out; omega) (by rw [HV0.out]; exact HST2.out.2.2.1)
        rw [hv1] at h; omega)
      have r0 := later_cell hcu2
      have r1 := later_cell hcu1
      have r2 := later_cell hcu0
      have r3 := later_cell hcv1
      have r4 := later_cell hcv0
      have HU := Lib.hid (And.intro hu2 (And.intro hu1 (And.intro hu0 (And.intro hv1 hv0))))
      obtain ⟨m2, m1, m0, n1, hm2, hm1, hm0, hn1, jI1, i2, i1, i0, k1, k0, jI4, hw⟩ := long_index (j := j) HN.out HL1.out.1 hj HL1.out.2
      rw [hm2] at r0
      rw [hm1] at r1
      rw [hm0] at r2
      rw [hn1] at r3
      have HW := Lib.hid hw
      have HI2 := Lib.hid i2
      have HM := Lib.hid (And.intro hm2 (And.intro hm1 (And.intro hm0 hn1)))
      clear hul hla hu2 hu1 hu0 hv1 hv0 e1 hcu2 hcu1 hcu0 hcv1 hcv0 hm2 hm1 hm0 hn1 hj nI2 xI hDI hw
      go_upto_region 8 with (fail)
      obtain ⟨⟨s2, s2'⟩, ⟨s1, s1'⟩, ⟨s0, s0'⟩, ⟨y1, y1'⟩, y0, y0'⟩ := HW.out

      refine wp_region_stages (fun w' => ∃ δ : Later Nix wr, w' = δ.world) [(false, 0), (false, 1), (false, 2), (false, 3), (false, 4), (false, 5), (false, 6), (false, 7), (false, 8), (false, 9), (false, 10), (false, 11), (false, 12), (false, 13), (false, 14), (false, 15), (false, 16), (false, 17), (false, 18), (false, 19), (false, 20), (false, 21), (false, 22), (false, 23), (false, 24), (false, 25), (false, 26), (false, 27), (false, 28), (false, 29), (false, 30), (false, 31), (true, 32)] 33 [.reads [_, _, _, _, _, _, _, _, _, _, _, _, _, _, _, _, _, _, _, _, _, _, _, _, _, _, _, _, _, _, _, _], .loud _] [_, _] (by kernel_rfl) (by kernel_rfl) rfl rfl ?_ ?_
      · exact ⟨⟨_, nix_drawn wr⟩, rfl⟩
      refine wpStages_reads ?_
      repeat (go_big_quiet_step (fail))
      refine wpQuiet_nil ?_
      refine wpStages_loud rfl ?_
      intro K hK
      go_big_op
      clear s2 s2' s1 s1' s0 s0' y1 y1' y0 y0' r0 r1 r2 r3 r4 i2 i1 i0 k1 k0
      refine (divide_guess _ _ _ _ _ _ hW2 hW1 hW0 hX1 hX0 HVP.out).mono ?_
      rintro e w1 ⟨g, rfl, hG, q1, rfl⟩
      obtain ⟨W1, hW1⟩ : ∃ W, (wr.drewN 1).drewN q1 = W := ⟨_, rfl⟩
      have hb : Below wr.heap.size wr W1 := by rw [← hW1]; exact below_drewN (below_drewN (Below.refl _ _) 1) q1
      rw [hW1]
      refine hK _ _ ⟨⟨_, Ext.of_nix hb⟩, rfl⟩ ?_
      clear hK K hW1
      replace HD := Lib.hid (HD.out.stay hb)
      clear hb
      have hgW := hG.lt
      have HG := Lib.hid hG
      have hcq := HD.out.ro.cell (k := j) (by rw [HD.out.lo]; omega)
      have hfq := HD.out.ro.free j
      clear hG
      refine wpStages_nil ?_
      go_wp2_with fail
      obtain ⟨W2, hWe⟩ : ∃ W, W1.setCell ⟨gq, j, none⟩ (.int .u64 (g : Int)) = W := ⟨_, rfl⟩
      rw [hWe]
      replace HD := Lib.hid (show DMem w W2 gu gv gq xs.length D n vs us (os.set j g) by rw [← hWe]; exact HD.out.setq (by omega) hgW)
      clear hcq hfq hWe
      have hcq := later_cell (HD.out.ro.cell (k := j) (by rw [HD.out.lo]; omega))
      rw [getD_set_at (by rw [← List.length_set (i := j) (a := g), HD.out.lo]; omega)] at hcq
      have jI2 : (j : Int) ≤ (xs.length : Int) + 1 := by have := HL1.out.1; omega
      have jI3 : ¬ (xs.length + 1 = j) := by have := HL1.out.1; omega
      refine wp_region_stages (fun w' => ∃ δ : Later Nix W2, w' = δ.world) [(false, 0), (false, 1), (false, 2), (false, 3), (false, 4), (false, 5), (false, 6), (false, 7)] 8 [.reads [_, _, _, _, _, _, _, _]] [_, _] (by kernel_rfl) (by kernel_rfl) rfl rfl ?_ ?_
      · exact ⟨⟨_, nix_drawn W2⟩, rfl⟩
      refine wpStages_reads ?_
      repeat (go_big_quiet_step (fail))
      refine wpQuiet_nil ?_
      refine wpStages_nil ?_
      go_wp2_with fail
      have HTK := Lib.hid (divide_take gu j (xs.length + 1 - j) (xs.length + 1 - j) (n + 1) (lb + 1) g us (some ⟨gv, 0, none⟩) vs (W2.drewN 1) (HD.out.ru.drewN 1) (HD.out.rv.drewN 1).lim' (fun ad e => by injection e with e; subst e; exact (Nat.ne_of_lt HD.out.ne1).symm) HVS.out (by rw [HD.out.lu]; have := HL1.out.1; omega) (by have := HL1.out.1; omega) (by rw [HD.out.lu]; have := HL1.out.2; omega) hgW)
      have HN1 := Lib.hid (show lb + 1 + 1 = n from HN.out)
      rw [HN1.out] at HTK
      refine HTK.out.mono ?_
      rintro e w1 ⟨b, us1, rfl, hb1, hrow1, hl1, htk, hdr, hv, hgr⟩
      replace HD := Lib.hid (HD.out.grown (grownBy_trans (drew_grown W2 1 _) hgr) hrow1 hl1)
      have HCASE := Lib.hid (long_taken (q := g) HSM.out HD.out.rv.small HVS.out HV0.out HVV.out.1 HVV.out.2 HUL.out HS.out HU.out HG.out hl1 htk hdr hv hb1)
      clear HTK hb1 hrow1 hl1 htk hdr hv hgr hcq jI2 jI3
      rcases HCASE.out with ⟨rfl, hgiv⟩ | ⟨rfl, hgiv⟩
      · have HGV := Lib.hid (long_given HSM.out HVV.out.1 HVV.out.2 HUL.out HJO.out HS.out hgiv)
        clear hgiv
        go_wp2_with fail
        exact ⟨⟨j, us1, _, by omega, by go_num, HD, HGV⟩, by simp [intOf]⟩
      · have HGI := Lib.hid hgiv
        clear hgiv
        go_wp2_with fail
        obtain ⟨wo, hwo⟩ : ∃ wo : World, wo = w1 := ⟨_, rfl⟩
        subst hwo
        go_loopg [] g (fun gk wr => ∃ us2 : List Nat, Hid (DMem w wr gu gv gq xs.length D n vs us2 (os.set j gk)) ∧ Hid (Giving us us2 j lb V gk) ∧ Hid (gk < W64))
        case atStart => exact ⟨us1, HD, HGI, Lib.hid hgW⟩
        case round =>
          clear HD HGI HCASE
          obtain ⟨us2, HD, HGI, HGW⟩ := hrel
          have jI2 : (j : Int) ≤ (xs.length : Int) + 1 := by have := HL1.out.1; omega
          have jI3 : ¬ (xs.length + 1 = j) := by have := HL1.out.1; omega
          go_wp2_with fail
          have HTK := Lib.hid (divide_give gu j (xs.length + 1 - j) (xs.length + 1 - j) (n + 1) (lb + 1) us2 (some ⟨gv, 0, none⟩) vs wr HD.out.ru HD.out.rv.lim' (fun ad e => by injection e with e; subst e; exact (Nat.ne_of_lt HD.out.ne1).symm) HVS.out (by rw [HD.out.lu]; have := HL1.out.1; omega) (by have := HL1.out.1; omega) (by rw [HD.out.lu]; have := HL1.out.2; omega))
          rw [HN1.out] at HTK
          refine HTK.out.mono ?_
          rintro e w2 ⟨v, c, us3, rfl, hc1, hrow1, hl1, htk, hdr, hv, hgr⟩
          have HSM2 := Lib.hid HD.out.ru.small
          replace HD := Lib.hid (HD.out.grown hgr hrow1 hl1)
          rw [HV0.out] at hv
          have hstep := HGI.out.step HSM2.out HD.out.ru.small HUL.out HVV.out.2 hl1 htk hdr hv hc1
          have hq1 := HGI.out.pos HSM2.out HUL.out
          have HSTEP := Lib.hid hstep
          obtain ⟨q, rfl⟩ : ∃ q, gk = q + 1 := ⟨gk - 1, by omega⟩
          rw [Nat.add_sub_cancel] at HSTEP
          have hcq := HD.out.ro.cell (k := j) (by rw [HD.out.lo]; omega)
          have hfq := HD.out.ro.free j
          rw [getD_set_at HJO.out, Int.natCast_add, Int.natCast_one] at hcq
          have hqW := HGW.out
          have HQ := Lib.hid (HD.out.setq (j := j) (g := q) (by omega) (by omega))
          rw [List.set_set] at HQ
          clear HTK hc1 hrow1 hl1 htk hdr hv hgr hstep hq1 jI2 jI3
          have hqI : (q : Int) + 1 ≤ 18446744073709551615 := by have := lt_W64 hqW; omega
          clear hqW
          go_upto_region 12 with (fail)
          obtain ⟨w3, hw3⟩ : ∃ W, w2.setCell ⟨gq, j, none⟩ (.int .u64 (q : Int)) = W := ⟨_, rfl⟩
          rw [hw3] at HQ ⊢
          clear hw3 HD hqI hcq hfq
          have hcx := HQ.out.ru.cell (k := j + (lb + 2)) (by rw [HQ.out.lu]; have := HL1.out.1; omega)
          obtain ⟨x, hx⟩ : ∃ x, us3.getD (j + (lb + 2)) 0 = x := ⟨_, rfl⟩
          rw [hx] at hcx HSTEP
          rw [HN.out] at hcx
          clear hx
          have i2 : (j : Int) + (n : Int) < (xs.length : Int) + 1 := by have := HL1.out.1; have := HN.out; omega
          rcases HSTEP.out with ⟨hx, hgiv⟩ | ⟨hx, hgiv⟩
          · have hx0 : ((x : Int) == 0) = false := beq_eq_false_iff_ne.2 (by omega)
            have HGI2 := Lib.hid hgiv
            clear hgiv hx
            go_wp2_with fail
            go_roundg q
            case measure => omega
            case rel => exact ⟨us3, HQ, HGI2, Lib.hid (Nat.lt_of_succ_lt HGW.out)⟩
          · subst hx
            have HGV := Lib.hid (long_given HSM.out HVV.out.1 HVV.out.2 HUL.out HJO.out HS.out hgiv)
            clear hgiv
            go_wp2_with fail
            exact ⟨⟨j, us3, _, by omega, by go_num, HQ, HGV⟩, by simp [intOf]⟩
end Go.Proofs.YtjbagikfogejnaaGreatDoor
/- The package limb: told, Neg, Of, sizes, Cmp, Add, Sub. -/
namespace Go.Proofs.YtjbagikfogejnaaGreatDoor
open Go.RowKit Go.Deep
/-- What is told of a sign and a size. -/
def toldF (neg : Bool) (n : Nat) : Raw × Int := if 4096 < lc n then ((false, []), 3) else (rawOf (signed neg n), 0)
theorem rawOf_signed (neg : Bool) (n : Nat) : rawOf (signed neg n) = (neg && decide (n ≠ 0), limbs n) := by
  unfold rawOf
  rw [signed_neg, signed_natAbs]
theorem clip_limbs (A : Option Addr) (l c : Nat) (w : World) (hc : l ≤ c) :
    Calls Tryz.prog 134 #[.slice A l c] w fun e w' => e = .returned (.slice A l l) ∧ w = w' := by
  go_enter Tryz.func134, Tryz.ntmps134
  go_wp2_with fail
  go_ret
  exact ⟨rfl, rfl⟩
set_option maxRecDepth 100000 in
theorem limb_told (neg : Bool) (A : Option Addr) (c base : Nat) (xs : List Nat) (w : World) (h : Lim w w.heap.size A xs) (hf : Fresh w base A c) (hc : xs.length ≤ c) (hl : xs.length ≤ 1099511627776) :
    Calls Tryz.prog 88 #[.bool neg, .slice A xs.length c] w fun e w' => ∃ v, e = .returned (.tuple #[v, .int .i64 (toldF neg (val xs)).2]) ∧ RawAt w' base v (toldF neg (val xs)).1 ∧ Below w.heap.size w w' := by
  have HF := Lib.hid hf
  have HC := Lib.hid hc
  clear hf hc
  have HE := Lib.hid (trimL_eq h.small)
  obtain ⟨V, hV⟩ : ∃ V, val xs = V := ⟨_, rfl⟩
  rw [hV] at HE ⊢
  have HV := Lib.hid hV
  clear hV
  go_enter Tryz.func88, Tryz.ntmps88
  go_wp2_with fail
  obtain ⟨W0, r, hW, hr, br, hbw, hsz⟩ := box_new w (.bool false) (.slice none 0 0)
  have h0 : Lim W0 r A xs := (hr ▸ h).below hbw
  have HW := Lib.hid (show w.heap.size = r from hr)
  have HH := Lib.hid h
  rw [hW, hr]
  clear hW hr h
  have d0 := br.cell0
  have d1 := br.cell1
  have fr := br.free
  go_loop [1] (fun v => ∃ n : Nat, n ≤ xs.length ∧ v = .slice A n c ∧ trimL (xs.take n) = trimL xs) (fun v => match v with | .slice _ n _ => n | _ => 0)
  case atStart => exact ⟨xs.length, Nat.le_refl _, rfl, by simp⟩
  case round =>
    obtain ⟨n, hn, rfl, ht⟩ := hrel
    have HT := Lib.hid ht
    clear ht
    rcases n with _ | n
    · have HZ := Lib.hid (show toldF neg V = ((false, []), 0) by
        have h1 := HE.out
        rw [← HT.out] at h1
        have h2 : V = 0 := limbs_eq_nil.1 (by rw [← h1]; rfl)
        subst h2
        unfold toldF
        rw [if_neg (by rw [lc_zero]; omega), rawOf_signed, limbs_zero]
        simp)
      go_wp2_with fail
      refine bodyPost_ret (v := .tuple #[.agg #[.bool false, (.slice none 0 0)], (.int .i64 0)]) (by
        rw [results_cell_tmp rfl]
        have hld := run_loadVar_row (P := Tryz.prog) _ r 24 24 #[.bool false, (.slice none 0 0)] (0, 0) _ br.store Tryz.underlying24 rfl (by kernel_rfl)
        simp [asAddr, Result.andThen, hld]) rfl ?_
      rw [HZ.out]
      exact ⟨_, rfl, RawAt.zero _ _, by rw [HW.out]; exact store2_below hbw (Nat.le_refl _)⟩
    · obtain ⟨ad, hAd, hb, hcell⟩ := h0.at_ (k := n) (by omega)
      subst hAd
      obtain ⟨x, hx⟩ : ∃ x, xs.getD n 0 = x := ⟨_, rfl⟩
      rw [hx] at hcell
      have HX := Lib.hid hx
      clear hx
      have hnc : ((n + 1 : Nat) : Int) - 1 = (n : Int) := by omega
      have hb0 : (0 : Int) < ((n + 1 : Nat) : Int) := by omega
      have hb1 : (n : Int) < ((n + 1 : Nat) : Int) := by omega
      have hb2 : (n : Int) ≤ ((n + 1 : Nat) : Int) := by omega
      have hncc : n ≤ c := by have := HC.out; omega
      by_cases hx0 : x = 0
      · have t0 : ((x : Int) == 0) = true := by simp [hx0]
        have HS := Lib.hid (show trimL (xs.take n) = trimL xs by rw [← HT.out, trimL_zero xs n (by omega) (by have := HX.out; omega)])
        clear hx0
        go_wp2_with fail
        exact ⟨⟨n, by omega, rfl, HS.out⟩, by simp⟩
      · have t0 : ((x : Int) == 0) = false := beq_eq_false_iff_ne.2 (by omega)
        have HL := Lib.hid (show xs.take (n + 1) = limbs V by rw [← HE.out, ← HT.out, trimL_pos xs n (by omega) (by have := HX.out; omega)])
        have HLN := Lib.hid (show lc V = n + 1 by
          unfold lc
          rw [← HL.out, List.length_take]; omega)
        have HN1 := Lib.hid (show n + 1 ≤ xs.length from hn)
        clear hx0
        by_cases hlong : n + 1 ≤ 4096
        · have hlI : ((n + 1 : Nat) : Int) ≤ 4096 := by omega
          have hz : (((n + 1 : Nat) : Int) == 0) = false := beq_eq_false_iff_ne.2 (by omega)
          have HZ := Lib.hid (show toldF neg V = ((neg, limbs V), 0) by
            unfold toldF
            rw [if_neg (by rw [HLN.out]; omega), rawOf_signed]
            have h0 : V ≠ 0 := fun e => by
              have := HLN.out
              rw [e, lc_zero] at this
              omega
            rw [decide_eq_true h0, Bool.and_true])
          clear hlong
          go_wp2_with fail
          refine (clip_limbs _ _ _ _ (by have := HC.out; omega)).mono ?_
          rintro e w1 ⟨rfl, rfl⟩
          go_wp2_with fail
          refine bodyPost_ret (v := .tuple #[.agg #[.bool neg, (.slice (some ad) (n + 1) (n + 1))], (.int .i64 0)]) (by
            rw [results_cell_tmp rfl]
            have hld := run_loadVar_row (P := Tryz.prog) _ r 24 24 #[.bool neg, (.slice (some ad) (n + 1) (n + 1))] (0, 0) _ br.store Tryz.underlying24 rfl (by kernel_rfl)
            simp [asAddr, Result.andThen, hld]) rfl ?_
          rw [HZ.out]
          have hlim := HH.out.take (n + 1)
          rw [HL.out] at hlim
          exact ⟨_, rfl, RawAt.of (x := (neg, limbs V)) hlim (HF.out.cut (by have := HC.out; have := HN1.out; omega)) (by rw [← HLN.out]; rfl) (Nat.le_refl _) (by rw [HW.out]; exact store2_below hbw (Nat.le_refl _)), by rw [HW.out]; exact store2_below hbw (Nat.le_refl _)⟩
        · have hlI : (4096 : Int) < ((n + 1 : Nat) : Int) := by omega
          have HZ := Lib.hid (show toldF neg V = ((false, []), 3) by
            unfold toldF
            rw [if_pos (by rw [HLN.out]; omega)])
          clear hlong
          go_wp2_with fail
          refine bodyPost_ret (v := .tuple #[.agg #[.bool false, (.slice none 0 0)], (.int .i64 3)]) (by
            rw [results_cell_tmp rfl]
            have hld := run_loadVar_row (P := Tryz.prog) _ r 24 24 #[.bool false, (.slice none 0 0)] (0, 0) _ br.store Tryz.underlying24 rfl (by kernel_rfl)
            simp [asAddr, Result.andThen, hld]) rfl ?_
          rw [HZ.out]
          exact ⟨_, rfl, RawAt.zero _ _, by rw [HW.out]; exact store2_below hbw (Nat.le_refl _)⟩
theorem told_right {neg : Bool} {n : Nat} (h : lc n ≤ 4096) : toldF neg n = (rawOf (signed neg n), 0) := by
  unfold toldF
  rw [if_neg (by omega)]
set_option maxRecDepth 100000 in
theorem limb_Neg (v : Value) (z : Int) (w : World) (h : IntV w v z) (hl : lc z.natAbs ≤ 4096) :
    Calls Tryz.prog 105 #[v] w fun e w' => ∃ v', e = .returned (.tuple #[v', .int .i64 0]) ∧ RawAt w' w.heap.size v' (rawOf (-z)) ∧ Below w.heap.size w w' := by
  obtain ⟨A, l, c, rfl, hll, hc, hlim⟩ := h
  have HR := Lib.hid (right_of hl)
  have HLL := Lib.hid hll
  have HC := Lib.hid hc
  have HL := Lib.hid hl
  have HLIM := Lib.hid hlim
  have hlI : (l : Int) ≤ 4096 := by unfold lc at hl; omega
  clear hll hc hl
  obtain ⟨s, hs⟩ : ∃ s, decide (z < 0) = s := ⟨_, rfl⟩
  have HS := Lib.hid hs
  rw [hs]
  clear hs
  go_enter Tryz.func105, Tryz.ntmps105
  go_wp2_with fail
  obtain ⟨W0, g, r, hW, hg, hr, hgr, bx, br, hbw, hsz⟩ := box_two w (.bool s) (.slice A l c) (.bool false) (.slice none 0 0)
  have HW := Lib.hid (show w.heap.size = g from hg)
  rw [hW, hr, hg]
  have h0 := (hg ▸ hlim : Lim w g A (limbs z.natAbs)).below hbw
  clear hW hr hg hlim
  refine (limb_right s A l c (limbs z.natAbs) W0 (by omega) h0 HLL.out).mono ?_
  rintro e w1 ⟨rfl, hb1⟩
  rw [← HS.out, HR.out, HS.out]
  have bx1 := bx.below hb1 bx.lt
  have br1 := br.below hb1 br.lt
  have hbw1 : Below g w w1 := below_then hbw (by omega) hb1
  have hbw1' : Below g W0 w1 := hb1.mono (by omega)
  have hlim1 := (h0.below hbw1').more (show g ≤ w1.heap.size by have := hb1.size; omega)
  have r0 := later_cell bx1.cell0
  have r1 := later_cell bx1.cell1
  have HLIM1 := Lib.hid hlim1
  have BR1 := Lib.hid br1
  have HBW1 := Lib.hid hbw1
  clear h0 hlim1 br br1 bx bx1 hb1 hbw hbw1
  go_wp2_with fail
  refine wp_region_stages (fun w' => ∃ δ : Later Nix w1, w' = δ.world) [(false, 0), (false, 1), (false, 2), (false, 3), (false, 4), (true, 5), (true, 6), (false, 7), (false, 8)] 9 [.reads [_, _, _, _, _], .loud _, .loud _, .reads [_, _]] [_, _] (by kernel_rfl) (by kernel_rfl) rfl rfl ?_ ?_
  · exact ⟨⟨_, nix_drawn w1⟩, rfl⟩
  refine wpStages_reads ?_
  repeat (go_big_quiet_step (fail))
  refine wpQuiet_nil ?_
  refine wpStages_loud rfl ?_
  intro K hK
  go_big_op
  rw [HLL.out]
  refine (clone_own A c (limbs z.natAbs) (w1.drewN 1) (Nat.le_refl _) (HLIM1.out.drewN 1) (by rw [← HLL.out]; exact HC.out) (by have := HL.out; unfold lc at this; omega)).mono ?_
  rintro e w2 ⟨A', c', rfl, hc', hlim', hfr, hb⟩
  have he : Ext Nix w1 w2 := (nix_drawn w1).later (Ext.of_below hb)
  refine hK _ _ ⟨⟨w2, he⟩, rfl⟩ ?_
  clear hK K
  refine wpStages_loud rfl ?_
  intro K hK
  go_big_op
  refine (limb_told (!s) A' c' _ (limbs z.natAbs) w2 hlim' hfr hc' (by have := HL.out; unfold lc at this; omega)).mono ?_
  rintro e w3 ⟨v, rfl, hv, hb3⟩
  have he3 : Ext Nix w1 w3 := he.later (Ext.of_below hb3)
  refine hK _ _ ⟨⟨w3, he3⟩, rfl⟩ ?_
  clear hK K
  rw [val_limbs, told_right HL.out] at hv ⊢
  obtain ⟨b3, A3, l3, c3, rfl, HV⟩ := hv.open
  clear hv
  refine wpStages_reads ?_
  repeat (go_big_quiet_step (fail))
  refine wpQuiet_nil ?_
  refine wpStages_nil ?_
  have hb13 : Below w1.heap.size w1 w3 := Ext.below (he3.mono (fun _ _ h => h) (fun _ h => h.elim))
  have br3 := BR1.out.below hb13 BR1.out.lt
  have d0 := br3.cell0
  have d1 := br3.cell1
  have fr := br3.free
  go_wp2_with fail
  refine bodyPost_ret (v := .tuple #[.agg #[.bool b3, (.slice A3 l3 c3)], (.int .i64 0)]) (by
    rw [results_cell_tmp rfl]
    have hld := run_loadVar_row (P := Tryz.prog) _ r 24 24 #[.bool b3, (.slice A3 l3 c3)] (0, 0) _ br3.store Tryz.underlying24 rfl (by kernel_rfl)
    simp [asAddr, Result.andThen, hld]) rfl ?_
  have HSG := signed_not z
  rw [HS.out] at HSG
  have hbF : Below g w w3 := below_then HBW1.out (by have := HW.out; have := HBW1.out.size; omega) hb13
  have hbl := BR1.out.lt
  have hv := HV.out.ext (ext_store2 (a := .bool b3) (b := .slice A3 l3 c3) br3.nums) (fun i hi => by subst hi; exact hbl)
  rw [HSG] at hv
  exact ⟨_, rfl, hv.since (by have := HW.out; have h : (w1.drewN 1).heap.size = w1.heap.size := rfl; omega), by rw [HW.out]; exact store2_below hbF (by omega)⟩
set_option maxRecDepth 100000 in
theorem limb_sizes (A1 A2 : Option Addr) (l1 l2 c1 c2 m n : Nat) (w : World) {B : Nat} (h1 : Lim w B A1 (limbs m)) (h2 : Lim w B A2 (limbs n)) (e1 : l1 = (limbs m).length) (e2 : l2 = (limbs n).length) (hl : l1 ≤ 35184372088832) (hl2 : l2 ≤ 35184372088832) :
    Calls Tryz.prog 94 #[.slice A1 l1 c1, .slice A2 l2 c2] w fun e w' => ∃ r : Int, e = .returned (.int .i64 r) ∧ ((r < 0 ↔ m < n) ∧ (0 < r ↔ n < m)) ∧ ∃ q, w' = w.drewN q := by
  have hm : val (limbs m) = m := val_limbs m
  have hn : val (limbs n) = n := val_limbs n
  have hlc1 : lc m = (limbs m).length := rfl
  have hlc2 : lc n = (limbs n).length := rfl
  generalize limbs m = xs at *
  generalize limbs n = ys at *
  by_cases heq : l1 = l2
  · subst heq
    have t0 : ((l1 : Int) != (l1 : Int)) = false := by simp
    have HM := Lib.hid hm
    have HN := Lib.hid hn
    have HE1 := Lib.hid e1
    have HE2 := Lib.hid e2
    clear hm hn hlc1 hlc2 e1 e2
    go_enter Tryz.func94, Tryz.ntmps94
    go_wp2_with fail
    go_loopw [20] (fun i wr => ∃ k j : Nat, k + j = l1 ∧ i = .int .i64 (j : Int) ∧ xs.drop k = ys.drop k ∧ ∃ q, wr = w.drewN q) (fun i _ => l1 - (intOf i).toNat)
    case atStart => exact ⟨l1, 0, by omega, rfl, by rw [List.drop_of_length_le (by rw [HE1.out]; omega), List.drop_of_length_le (by rw [HE2.out]; omega)], 0, rfl⟩
    case round =>
      obtain ⟨k, j, hkj, rfl, hd, q, rfl⟩ := hrel
      have HD := Lib.hid hd
      clear hd
      rcases k with _ | k
      · have hj : ¬ ((j : Int) < (l1 : Int)) := by omega
        go_wp2_with fail
        go_ret
        have e : xs = ys := by simpa using HD.out
        have e2 : m = n := by rw [← HM.out, ← HN.out, e]
        exact ⟨0, rfl, by omega, q, rfl⟩
      · obtain ⟨ad, rfl, hb, hcell⟩ := h1.at_ (k := k) (by rw [← HE1.out]; omega)
        obtain ⟨ad2, rfl, hb2, hcell2⟩ := h2.at_ (k := k) (by rw [← HE2.out]; omega)
        obtain ⟨x, hx⟩ : ∃ x, xs.getD k 0 = x := ⟨_, rfl⟩
        obtain ⟨y, hy⟩ : ∃ y, ys.getD k 0 = y := ⟨_, rfl⟩
        rw [hx] at hcell
        rw [hy] at hcell2
        have HX := Lib.hid hx
        have HY := Lib.hid hy
        clear hx hy
        have e3 : (l1 : Int) - 1 - (j : Int) = (k : Int) := by omega
        have b0 : (0 : Int) ≤ (k : Int) := by omega
        have b1 : (k : Int) < (l1 : Int) := by omega
        have b2 : (j : Int) < (l1 : Int) := by omega
        have hkl : k < l1 := by omega
        rcases Nat.lt_trichotomy x y with hxy | hxy | hxy
        · have HE := Lib.hid (show m < n by rw [← HM.out, ← HN.out]; exact val_lt_top h1.small h2.small (by rw [← HE1.out, ← HE2.out]) (by rw [← HE1.out]; omega) HD.out (by rw [HX.out, HY.out]; exact hxy))
          go_wp2_with fail
          go_quiet (fail)
          go_wp2_with fail
          go_ret
          have := HE.out
          exact ⟨-1, rfl, by omega, _, rfl⟩
        · subst hxy
          have HDS := Lib.hid (drop_same (xs := xs) (ys := ys) (by rw [← HE1.out, ← HE2.out]) (by rw [← HE1.out]; omega) HD.out (by rw [HX.out, HY.out]))
          go_wp2_with fail
          go_quiet (fail)
          go_wp2_with fail
          exact ⟨⟨k, j + 1, by omega, by go_num, HDS.out, _, rfl⟩, by simp [intOf]; omega⟩
        · have HE := Lib.hid (show n < m by rw [← HM.out, ← HN.out]; exact val_lt_top h2.small h1.small (by rw [← HE1.out, ← HE2.out]) (by rw [← HE2.out]; omega) HD.out.symm (by rw [HX.out, HY.out]; exact hxy))
          go_wp2_with fail
          go_quiet (fail)
          go_wp2_with fail
          go_ret
          have := HE.out
          exact ⟨1, rfl, by omega, _, rfl⟩
  · have t0 : ((l1 : Int) != (l2 : Int)) = true := by rw [bne_iff_ne]; omega
    have HQ := Lib.hid (show ((l1 : Int) - (l2 : Int) < 0 ↔ m < n) ∧ (0 < (l1 : Int) - (l2 : Int) ↔ n < m) by
      rcases Nat.lt_trichotomy l1 l2 with h | h | h
      · have := lc_lt (show lc m < lc n by omega)
        omega
      · omega
      · have := lc_lt (show lc n < lc m by omega)
        omega)
    clear hm hn hlc1 hlc2 e1 e2 heq
    go_enter Tryz.func94, Tryz.ntmps94
    go_wp2_with fail
    go_ret
    exact ⟨_, rfl, HQ.out, 0, rfl⟩
end Go.Proofs.YtjbagikfogejnaaGreatDoor
/- The package limb, on: Cmp, Add, Sub, Of. -/
namespace Go.Proofs.YtjbagikfogejnaaGreatDoor
open Go.RowKit Go.Deep
theorem cmpZ_case (x y : Int) (r : Int) (h : (r < 0 ↔ x.natAbs < y.natAbs) ∧ (0 < r ↔ y.natAbs < x.natAbs)) :
    cmpZ x y = if (decide (x < 0) != decide (y < 0) && decide (x < 0) || decide (x < 0) == decide (y < 0) && decide (x < 0) && decide (0 < r) || decide (x < 0) == decide (y < 0) && !decide (x < 0) && decide (r < 0)) then -1 else if decide (x < 0) == decide (y < 0) && r == 0 then 0 else 1 := by
  unfold cmpZ
  by_cases h1 : x < 0 <;> by_cases h2 : y < 0 <;> simp [h1, h2] <;> grind
set_option maxRecDepth 100000 in
theorem limb_Cmp (u v : Value) (x y : Int) (w : World) (hx : IntV w u x) (hy : IntV w v y) (lx : lc x.natAbs ≤ 4096) (ly : lc y.natAbs ≤ 4096) :
    Calls Tryz.prog 74 #[u, v] w fun e w' => e = .returned (.tuple #[.int .i64 (cmpZ x y), .int .i64 0]) ∧ Below w.heap.size w w' := by
  obtain ⟨A1, l1, c1, rfl, hl1, hc1, hlim1⟩ := hx
  obtain ⟨A2, l2, c2, rfl, hl2, hc2, hlim2⟩ := hy
  have HR1 := Lib.hid (right_of lx)
  have HR2 := Lib.hid (right_of ly)
  have HL1 := Lib.hid hl1
  have HL2 := Lib.hid hl2
  have hI1 : (l1 : Int) ≤ 4096 := by unfold lc at lx; omega
  have hI2 : (l2 : Int) ≤ 4096 := by unfold lc at ly; omega
  have HX := Lib.hid lx
  have HY := Lib.hid ly
  clear hl1 hl2 lx ly
  obtain ⟨s1, hs1⟩ : ∃ s, decide (x < 0) = s := ⟨_, rfl⟩
  obtain ⟨s2, hs2⟩ : ∃ s, decide (y < 0) = s := ⟨_, rfl⟩
  have HS1 := Lib.hid hs1
  have HS2 := Lib.hid hs2
  rw [hs1, hs2]
  clear hs1 hs2
  go_enter Tryz.func74, Tryz.ntmps74
  go_wp2_with fail
  obtain ⟨W0, g, h, hW, hg, hr, hgr, bx, by_, hbw, hsz⟩ := box_two w (.bool s1) (.slice A1 l1 c1) (.bool s2) (.slice A2 l2 c2)
  have HW := Lib.hid (show w.heap.size = g from hg)
  rw [hW, hr, hg]
  have k1 := ((hg ▸ hlim1 : Lim w g A1 (limbs x.natAbs)).below hbw)
  have k2 := ((hg ▸ hlim2 : Lim w g A2 (limbs y.natAbs)).below hbw)
  clear hW hr hg hlim1 hlim2
  refine (limb_right s1 A1 l1 c1 (limbs x.natAbs) W0 (by omega) k1 HL1.out).mono ?_
  rintro e w1 ⟨rfl, hb1⟩
  rw [← HS1.out, HR1.out, HS1.out]
  have hb1 : Below g W0 w1 := hb1.mono (by omega)
  have hbw1 := hbw.trans hb1
  have k1 := k1.below hb1
  have k2 := k2.below hb1
  have bx := bx.below (B := W0.heap.size) (by assumption) bx.lt
  have by_ := by_.below (B := W0.heap.size) (by assumption) by_.lt
  have a0 := bx.cell0
  have a1 := bx.cell1
  have b0 := by_.cell0
  have b1 := by_.cell1
  go_wp2_with fail
  refine (limb_right s2 A2 l2 c2 (limbs y.natAbs) w1 (by have := hb1.size; omega) k2 HL2.out).mono ?_
  rintro e w2 ⟨rfl, hb2⟩
  rw [← HS2.out, HR2.out, HS2.out]
  have bx := bx.below hb2 bx.lt
  have by_ := by_.below hb2 by_.lt
  have hbw2 := hbw1.trans (hb2.mono (by have := hb1.size; omega))
  have k1 := k1.below (hb2.mono (by have := hb1.size; omega))
  have k2 := k2.below (hb2.mono (by have := hb1.size; omega))
  have a0 := bx.cell0
  have a1 := bx.cell1
  have b0 := by_.cell0
  have b1 := by_.cell1
  go_wp2_with fail
  refine (limb_sizes A1 A2 l1 l2 c1 c2 x.natAbs y.natAbs w2 k1 k2 HL1.out HL2.out (by omega) (by omega)).mono ?_
  rintro e w3 ⟨q, rfl, hq, n, rfl⟩
  have HC := Lib.hid (cmpZ_case x y q hq)
  rw [HS1.out, HS2.out] at HC
  have hF : Below w.heap.size w (w2.drewN n) := by rw [HW.out]; exact below_drewN hbw2 n
  have HF := Lib.hid hF
  have a0 : (w2.drewN n).cell? ⟨g, 0, none⟩ = some (.bool s1) := a0
  have b0 : (w2.drewN n).cell? ⟨h, 0, none⟩ = some (.bool s2) := b0
  clear hF hbw2 k1 k2 hbw1 hb1 hb2
  rcases Int.lt_trichotomy q 0 with hq0 | hq0 | hq0
  · have HQ := Lib.hid hq0
    have q1 : ¬ (0 < q) := by omega
    have q2 : (q == 0) = false := beq_eq_false_iff_ne.2 (by omega)
    clear hq
    cases s1 <;> cases s2
    all_goals
      have HZ := Lib.hid (HC.out.trans (by simp [HQ.out, q1, q2]; rfl) : cmpZ x y = _)
      go_wp2_with fail
      go_ret2
      rw [HZ.out]
      exact ⟨rfl, HF.out⟩
  · subst hq0
    clear hq
    cases s1 <;> cases s2
    all_goals
      have HZ := Lib.hid (HC.out.trans (by simp; rfl) : cmpZ x y = _)
      go_wp2_with fail
      go_ret2
      rw [HZ.out]
      exact ⟨rfl, HF.out⟩
  · have HQ := Lib.hid hq0
    have q1 : ¬ (q < 0) := by omega
    have q2 : (q == 0) = false := beq_eq_false_iff_ne.2 (by omega)
    clear hq
    cases s1 <;> cases s2
    all_goals
      have HZ := Lib.hid (HC.out.trans (by simp [HQ.out, q1, q2]; rfl) : cmpZ x y = _)
      go_wp2_with fail
      go_ret2
      rw [HZ.out]
      exact ⟨rfl, HF.out⟩
set_option maxRecDepth 100000 in
theorem limb_behind1 (i h l c : Nat) (A : Option Addr) (xs : List Nat) (w : World) {B : Nat} (hb : w.cell? ⟨h, 0, none⟩ = some (.slice A l c)) (h1 : Lim w B A xs) (hl : l = xs.length) (_hlI : (l : Int) ≤ 4096) :
    Calls Tryz.prog 138 #[.int .i64 (i : Int), .pointer (some ⟨h, 0, none⟩)] w fun e w' => e = .returned (.int .u64 ((xs.getD i 0 : Nat) : Int)) ∧ w = w' := by
  by_cases hi : i < l
  · obtain ⟨ad, rfl, _, hcell⟩ := h1.at_ (k := i) (by omega)
    obtain ⟨x, hx⟩ : ∃ x, xs.getD i 0 = x := ⟨_, rfl⟩
    rw [hx] at hcell ⊢
    have hI : (i : Int) < (l : Int) := by omega
    clear hx hl
    go_enter Tryz.func138, Tryz.ntmps138
    go_wp2_with fail
    go_ret
    exact ⟨rfl, rfl⟩
  · have hI : ¬ ((i : Int) < (l : Int)) := by omega
    rw [show xs.getD i 0 = 0 by simp [show xs.length ≤ i by omega]]
    clear hl hi
    go_enter Tryz.func138, Tryz.ntmps138
    go_wp2_with fail
    go_ret
    exact ⟨rfl, rfl⟩
set_option maxRecDepth 100000 in
theorem limb_behind (A : Option Addr) (l c : Nat) (w : World) : Calls Tryz.prog 95 #[.slice A l c] w fun e w' => e = .returned (.func (.func 138) #[] #[.pointer (some ⟨w.heap.size, 0, none⟩)]) ∧ w' = w.alloc (.cells #[.slice A l c] 22) := by
  go_enter Tryz.func95, Tryz.ntmps95
  go_wp2_with fail
  go_ret
  exact ⟨rfl, rfl⟩
end Go.Proofs.YtjbagikfogejnaaGreatDoor
