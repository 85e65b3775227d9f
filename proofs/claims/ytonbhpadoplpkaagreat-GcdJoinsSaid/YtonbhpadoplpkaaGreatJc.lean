import Derived.Test.YtonbhpadoplpkaaGreatJb
import Derived.Test.YtonbhpadoplpkaaGreatProg
import Derived.WalkKit
import Derived.Laws.OwnMore
import Derived.Deep.Draws
import Derived.Deep.OwnRows
import Derived.Deep.LoopGhost
import Derived.Deep.QuietTactic
import Derived.BigQuiet
import Derived.Lib.Hide
import Derived.Maps.AppendAt
import Derived.Laws.Rows
import Derived.OneCell
import Derived.Shelf.Spec.BitsCarry
import Derived.Deep.DeepCutAuto
import Derived.Shelf.Small.Bits
import Derived.Shelf.Strconv.Itoa0
import Derived.Shelf.Bits.Mul64
import Derived.Lib.BitFns
import Derived.Deep.CutBlock
import Derived.BigRegion
import Derived.StillTailTactics
import Derived.Deep.AppendLies
import Derived.Orders
import Derived.Lib.SliceRun
import Derived.Deep.MidRow
import Derived.BigCall
import Derived.Laws.AppendOwn
import Derived.Great.BuildSlice
import Derived.Deep.RegionWith
import Derived.WalkMore
import Derived.Laws.EntriesVeiled
import Derived.Laws.CopyOwn
import Derived.Test.YtonbhpadoplpkaaGreatRows
import Derived.ProofKit
import Derived.OpenShut
import Derived.Deep.SlicePairs
import Derived.WideKeyArgs
/- Of: Abs8, Ty, Gcd1, DivP, Div1, Div2, DivQ, Div3, Limb, Limb3, Div4, Div5. -/
/- An abstract machine: the walk's steps, each by its operation. -/
namespace Go.Proofs.YtonbhpadoplpkaaGreat
open Go.RowKit Go.Deep
section
variable {P : Program} {n : Nat} {all ops : List Oper} {draw : Bool} {acc : List (AR × Eff)} {tm : List (Nat × AR)} {bx : List (Nat × TypeId × List AC)} {nb : Nat} {K : ASt → Prop} {d : Nat} {ty : TypeId} {pos : String} {aft : Array Edge}
theorem AW_move {x : Operand} {v : AR} (hd : Nat.blt d n = true) (hx : ASt.ev ⟨tm, bx, nb⟩ x = some v) (h : AW P n all draw ((v, .no) :: acc) ⟨(d, v) :: tm, bx, nb⟩ ops K) : AW P n all draw acc ⟨tm, bx, nb⟩ (⟨some d, .move x, ty, pos, aft, none⟩ :: ops) K :=
  AW_quiet hd (q_move hx) h
theorem AW_assign {x : Operand} {v : AR} (hd : Nat.blt d n = true) (hx : ASt.ev ⟨tm, bx, nb⟩ x = some v) (h : AW P n all draw ((v, .no) :: acc) ⟨(d, v) :: tm, bx, nb⟩ ops K) : AW P n all draw acc ⟨tm, bx, nb⟩ (⟨some d, .assign x, ty, pos, aft, none⟩ :: ops) K :=
  AW_quiet hd (q_assign hx) h
theorem AW_extract {x : Operand} {l : List AV} {i : Nat} {v : AV} (hd : Nat.blt d n = true) (hx : ASt.ev ⟨tm, bx, nb⟩ x = some (.tup l)) (hi : l[i]? = some v) (h : AW P n all draw ((.val v, .no) :: acc) ⟨(d, .val v) :: tm, bx, nb⟩ ops K) : AW P n all draw acc ⟨tm, bx, nb⟩ (⟨some d, .extract x i, ty, pos, aft, none⟩ :: ops) K :=
  AW_quiet hd (q_extract hx hi) h
theorem AW_not {x : Operand} {xt : TypeId} {t : Bool} (hd : Nat.blt d n = true) (hx : ASt.ev ⟨tm, bx, nb⟩ x = some (.val (.one (.b t)))) (h : AW P n all draw ((.val (.one (.b (!t))), .no) :: acc) ⟨(d, .val (.one (.b (!t)))) :: tm, bx, nb⟩ ops K) : AW P n all draw acc ⟨tm, bx, nb⟩ (⟨some d, .unOp .not xt x, ty, pos, aft, none⟩ :: ops) K :=
  AW_quiet hd (q_not hx) h
theorem AW_build {bt : TypeId} {parts : Array (Nat × Operand)} {pl : List (Nat × Nat)} {zs r : List AC} (hd : Nat.blt d n = true) (hb : TyB P bt pl zs) (hr : abuild pl (ASt.ev ⟨tm, bx, nb⟩) zs parts.toList = some r) (h : AW P n all draw ((.val (.agg r), .no) :: acc) ⟨(d, .val (.agg r)) :: tm, bx, nb⟩ ops K) : AW P n all draw acc ⟨tm, bx, nb⟩ (⟨some d, .build bt parts, ty, pos, aft, none⟩ :: ops) K :=
  AW_quiet hd (q_build hb hr) h
theorem AW_field {x : Operand} {st : TypeId} {f off m : Nat} {row : Bool} {cs r : List AC} {v : AV} (hd : Nat.blt d n = true) (hf : TyF P st f off m row) (hx : ASt.ev ⟨tm, bx, nb⟩ x = some (.val (.agg cs))) (hr : rdO cs off m = some r) (hv : mkAV row r = v) (h : AW P n all draw ((.val v, .no) :: acc) ⟨(d, .val v) :: tm, bx, nb⟩ ops K) : AW P n all draw acc ⟨tm, bx, nb⟩ (⟨some d, .field st x f, ty, pos, aft, none⟩ :: ops) K :=
  AW_quiet hd (q_field hx hf hr hv) h
theorem AW_fieldAddr {x : Operand} {st : TypeId} {f off m j o o' : Nat} {row : Bool} (hd : Nat.blt d n = true) (hf : TyF P st f off m row) (hx : ASt.ev ⟨tm, bx, nb⟩ x = some (.val (.one (.ptr j o)))) (ho : o + off = o') (h : AW P n all draw ((.val (.one (.ptr j o')), .no) :: acc) ⟨(d, .val (.one (.ptr j o'))) :: tm, bx, nb⟩ ops K) : AW P n all draw acc ⟨tm, bx, nb⟩ (⟨some d, .fieldAddr st x f, ty, pos, aft, none⟩ :: ops) K :=
  AW_quiet hd (q_fieldAddr hx hf ho) h
theorem AW_fieldAddrg {jg gd : Nat} {b t : Bool} {x : Operand} {st : TypeId} {f off m j o o' : Nat} {row : Bool} (hgd : dstIn all jg = some gd) (ht : look tm gd = some (.val (.one (.b t)))) (hb : (t == b) = true) (hd : Nat.blt d n = true) (hf : TyF P st f off m row) (hx : ASt.ev ⟨tm, bx, nb⟩ x = some (.val (.one (.ptr j o)))) (ho : o + off = o')
    (h : AW P n all draw ((.val (.one (.ptr j o')), .no) :: acc) ⟨(d, .val (.one (.ptr j o'))) :: tm, bx, nb⟩ ops K) : AW P n all draw acc ⟨tm, bx, nb⟩ (⟨some d, .fieldAddr st x f, ty, pos, aft, some (jg, b)⟩ :: ops) K :=
  AW_quietg hgd ht hb hd (q_fieldAddr hx hf ho) h
theorem AW_arrayAt {x ix : Operand} {j o o' len sz : Nat} {k : IntKind} {m : Int} {at_ e : TypeId} (hd : Nat.blt d n = true) (hu : P.underlying at_ = some (.array len e)) (hs : (P.info? e).map (·.size) = some sz) (hx : ASt.ev ⟨tm, bx, nb⟩ x = some (.val (.one (.ptr j o)))) (hi : ASt.ev ⟨tm, bx, nb⟩ ix = some (.val (.one (.i k m)))) (h0 : decide (0 ≤ m ∧ m < (len : Int)) = true) (ho : o + m.toNat * sz = o')
    (h : AW P n all draw ((.val (.one (.ptr j o')), .no) :: acc) ⟨(d, .val (.one (.ptr j o'))) :: tm, bx, nb⟩ ops K) : AW P n all draw acc ⟨tm, bx, nb⟩ (⟨some d, .indexAddr at_ x ix, ty, pos, aft, none⟩ :: ops) K :=
  AW_quiet hd (q_arrayAt hx hi hu hs h0 ho) h
theorem AW_ints {st e : TypeId} {len : Nat} {parts : List (Nat × Operand)} {xs : List Raw} {ie : TypeInfo} {z : Value} (hd : Nat.blt d n = true) (hu : P.underlying st = some (.slice e)) (hi : P.info? e = some ie) (hs : ie.size = 2) (hz : ie.zero = some z) (hl : Nat.beq len parts.length = true) (hn : Nat.ble 1 len = true) (hn2 : Nat.ble len 1000 = true)
    (hp : EvInts (ASt.ev ⟨tm, bx, nb⟩) 0 parts xs) (h : AW P n all draw ((.val (.one (.st (polyP xs))), .no) :: acc) ⟨(d, .val (.one (.st (polyP xs)))) :: tm, bx, nb⟩ ops K) : AW P n all draw acc ⟨tm, bx, nb⟩ (⟨some d, .buildSlice st len parts.toArray, ty, pos, aft, none⟩ :: ops) K :=
  AW_quiet hd (q_ints hl hn hn2 hu hi hs hz hp) h
theorem AW_pickT {c x y : Operand} {v : AR} (hd : Nat.blt d n = true) (hc : ASt.ev ⟨tm, bx, nb⟩ c = some (.val (.one (.b true)))) (hx : ASt.ev ⟨tm, bx, nb⟩ x = some v) (h : AW P n all draw ((v, .no) :: acc) ⟨(d, v) :: tm, bx, nb⟩ ops K) : AW P n all draw acc ⟨tm, bx, nb⟩ (⟨some d, .pick c x y, ty, pos, aft, none⟩ :: ops) K :=
  AW_quiet hd (q_pickT hc hx) h
theorem AW_pickF {c x y : Operand} {v : AR} (hd : Nat.blt d n = true) (hc : ASt.ev ⟨tm, bx, nb⟩ c = some (.val (.one (.b false)))) (hx : ASt.ev ⟨tm, bx, nb⟩ y = some v) (h : AW P n all draw ((v, .no) :: acc) ⟨(d, v) :: tm, bx, nb⟩ ops K) : AW P n all draw acc ⟨tm, bx, nb⟩ (⟨some d, .pick c x y, ty, pos, aft, none⟩ :: ops) K :=
  AW_quiet hd (q_pickF hc hx) h
section
variable {jg gd : Nat} {b t : Bool} (hgd : dstIn all jg = some gd) (ht : look tm gd = some (.val (.one (.b t)))) (hb : (t == b) = true) (hd : Nat.blt d n = true)
include hgd ht hb hd
theorem AW_pickTg {c x y : Operand} {v : AR} (hc : ASt.ev ⟨tm, bx, nb⟩ c = some (.val (.one (.b true)))) (hx : ASt.ev ⟨tm, bx, nb⟩ x = some v) (h : AW P n all draw ((v, .no) :: acc) ⟨(d, v) :: tm, bx, nb⟩ ops K) : AW P n all draw acc ⟨tm, bx, nb⟩ (⟨some d, .pick c x y, ty, pos, aft, some (jg, b)⟩ :: ops) K :=
  AW_quietg hgd ht hb hd (q_pickT hc hx) h
theorem AW_pickFg {c x y : Operand} {v : AR} (hc : ASt.ev ⟨tm, bx, nb⟩ c = some (.val (.one (.b false)))) (hx : ASt.ev ⟨tm, bx, nb⟩ y = some v) (h : AW P n all draw ((v, .no) :: acc) ⟨(d, v) :: tm, bx, nb⟩ ops K) : AW P n all draw acc ⟨tm, bx, nb⟩ (⟨some d, .pick c x y, ty, pos, aft, some (jg, b)⟩ :: ops) K :=
  AW_quietg hgd ht hb hd (q_pickF hc hx) h
theorem AW_moveg {x : Operand} {v : AR} (hx : ASt.ev ⟨tm, bx, nb⟩ x = some v) (h : AW P n all draw ((v, .no) :: acc) ⟨(d, v) :: tm, bx, nb⟩ ops K) : AW P n all draw acc ⟨tm, bx, nb⟩ (⟨some d, .move x, ty, pos, aft, some (jg, b)⟩ :: ops) K :=
  AW_quietg hgd ht hb hd (q_move hx) h
theorem AW_notg {x : Operand} {xt : TypeId} {t' : Bool} (hx : ASt.ev ⟨tm, bx, nb⟩ x = some (.val (.one (.b t')))) (h : AW P n all draw ((.val (.one (.b (!t'))), .no) :: acc) ⟨(d, .val (.one (.b (!t')))) :: tm, bx, nb⟩ ops K) : AW P n all draw acc ⟨tm, bx, nb⟩ (⟨some d, .unOp .not xt x, ty, pos, aft, some (jg, b)⟩ :: ops) K :=
  AW_quietg hgd ht hb hd (q_not hx) h
theorem AW_eqg {x y : Operand} {xt yt : TypeId} {k : IntKind} {m m' : Int} (hx : ASt.ev ⟨tm, bx, nb⟩ x = some (.val (.one (.i k m)))) (hy : ASt.ev ⟨tm, bx, nb⟩ y = some (.val (.one (.i k m')))) (h : AW P n all draw ((.val (.one (.b (m == m'))), .no) :: acc) ⟨(d, .val (.one (.b (m == m')))) :: tm, bx, nb⟩ ops K) : AW P n all draw acc ⟨tm, bx, nb⟩ (⟨some d, .binOp .eql xt x y yt, ty, pos, aft, some (jg, b)⟩ :: ops) K :=
  AW_quietg hgd ht hb hd (q_eq hx hy) h
end
theorem q_beq {ev : Operand → Option AR} {dd : Option Nat} {x y : Operand} {xt yt : TypeId} {a c : Bool} {g : Option (Nat × Bool)} (hx : ev x = some (.val (.one (.b a)))) (hy : ev y = some (.val (.one (.b c)))) (hu : P.underlying xt = some .bool) : Quiet P ⟨dd, .binOp .eql xt x y yt, ty, pos, aft, g⟩ ev (.val (.one (.b (a == c)))) :=
  q_of2 hx hy (by simp [Op.operands]) (by simp [Op.operands]) fun G β w U ρ _ hk _ hk' => by
    have hk : ρ x = .bool a := hk
    have hk' : ρ y = .bool c := hk'
    have he : (Op.equal xt (.bool a) (.bool c)).run P w = .ok (a == c) w := by
      show (Op.equalIn (9999 + 1) xt (.bool a) (.bool c)).run P w = _
      unfold Op.equalIn
      rw [Sem.run_bind, run_underlying hu w]
      rfl
    exact ⟨.bool (a == c), by simp [execOp, eqGuard, binOp, hk, hk', he], rfl, trivial⟩
theorem AW_beq {x y : Operand} {xt yt : TypeId} {a c : Bool} (hd : Nat.blt d n = true) (hu : P.underlying xt = some .bool) (hx : ASt.ev ⟨tm, bx, nb⟩ x = some (.val (.one (.b a)))) (hy : ASt.ev ⟨tm, bx, nb⟩ y = some (.val (.one (.b c)))) (h : AW P n all draw ((.val (.one (.b (a == c))), .no) :: acc) ⟨(d, .val (.one (.b (a == c)))) :: tm, bx, nb⟩ ops K) : AW P n all draw acc ⟨tm, bx, nb⟩ (⟨some d, .binOp .eql xt x y yt, ty, pos, aft, none⟩ :: ops) K :=
  AW_quiet hd (q_beq hx hy hu) h
theorem q_bne {ev : Operand → Option AR} {dd : Option Nat} {x y : Operand} {xt yt : TypeId} {a c : Bool} {g : Option (Nat × Bool)} (hx : ev x = some (.val (.one (.b a)))) (hy : ev y = some (.val (.one (.b c)))) (hu : P.underlying xt = some .bool) : Quiet P ⟨dd, .binOp .neq xt x y yt, ty, pos, aft, g⟩ ev (.val (.one (.b (a != c)))) :=
  q_of2 hx hy (by simp [Op.operands]) (by simp [Op.operands]) fun G β w U ρ _ hk _ hk' => by
    have hk : ρ x = .bool a := hk
    have hk' : ρ y = .bool c := hk'
    have he : (Op.equal xt (.bool a) (.bool c)).run P w = .ok (a == c) w := by
      show (Op.equalIn (9999 + 1) xt (.bool a) (.bool c)).run P w = _
      unfold Op.equalIn
      rw [Sem.run_bind, run_underlying hu w]
      rfl
    exact ⟨.bool (a != c), by simp [execOp, eqGuard, binOp, hk, hk', he]; cases a <;> cases c <;> rfl, rfl, trivial⟩
theorem AW_bne {x y : Operand} {xt yt : TypeId} {a c : Bool} (hd : Nat.blt d n = true) (hu : P.underlying xt = some .bool) (hx : ASt.ev ⟨tm, bx, nb⟩ x = some (.val (.one (.b a)))) (hy : ASt.ev ⟨tm, bx, nb⟩ y = some (.val (.one (.b c)))) (h : AW P n all draw ((.val (.one (.b (a != c))), .no) :: acc) ⟨(d, .val (.one (.b (a != c)))) :: tm, bx, nb⟩ ops K) : AW P n all draw acc ⟨tm, bx, nb⟩ (⟨some d, .binOp .neq xt x y yt, ty, pos, aft, none⟩ :: ops) K :=
  AW_quiet hd (q_bne hx hy hu) h
/-- A pointer to a cell that is only read. -/
def slotP (p : Pred) : Pred where
  is := fun G w v => ∃ ad u, v = .pointer (some ad) ∧ ¬ G ad.block ∧ ad.block < w.heap.size ∧ w.cell? ad = some u ∧ p.is G w u
  cell := by
    rintro G w v ⟨ad, _, rfl, _⟩
    exact ⟨fun _ => by simp, rfl⟩
  stay := by
    rintro G w w' v ⟨ad, u, rfl, hG, hb, h1, h2⟩ m
    have h3 := p.stay h2 m
    obtain ⟨H, hH, e⟩ := m.ext
    have hblk : w'.heap[ad.block]? = w.heap[ad.block]? := e.block _ hb fun h => hG (hH _ h)
    exact ⟨ad, u, rfl, hG, Nat.lt_of_lt_of_le hb e.size, by rw [cell_of_block (w := w) hblk]; exact h1, h3⟩
  grow := by
    rintro G G' w v ⟨ad, u, rfl, hG, hb, h1, h2⟩ hg
    refine ⟨ad, u, rfl, fun h => ?_, hb, h1, p.grow h2 hg⟩
    rcases hg _ h with h | h
    · exact hG h
    · omega
theorem AW_recMag {x : Operand} {r : Raw} {st : TypeId} {fields : Array Field} {fd : Field} (hd : Nat.blt d n = true) (hu : P.underlying st = some (.struct fields)) (hf : fields[1]? = some fd) (ho : fd.offset = 1) (hs : (P.info? fd.type).map (·.size) = some 1) (hx : ASt.ev ⟨tm, bx, nb⟩ x = some (.val (.one (.st (recP r)))))
    (h : AW P n all draw ((.val (.one (.st (slotP (magP r.2)))), .no) :: acc) ⟨(d, .val (.one (.st (slotP (magP r.2))))) :: tm, bx, nb⟩ ops K) : AW P n all draw acc ⟨tm, bx, nb⟩ (⟨some d, .fieldAddr st x 1, ty, pos, aft, none⟩ :: ops) K := by
  refine AW_quiet hd (q_of hx (by simp [Op.operands]) fun G β w U ρ _ hk => ?_) h
  obtain ⟨ad, Am, l, c, he, hG, hb, h1, h2, h3, h4, h5⟩ := hk
  refine ⟨.pointer (some ⟨ad.block, ad.off + 1, none⟩), ?_, ⟨⟨ad.block, ad.off + 1, none⟩, _, rfl, hG, hb, h2, ⟨Am, l, c, rfl, h3, h4, h5⟩⟩, trivial⟩
  cases hq : P.info? fd.type with
  | none => simp [hq] at hs
  | some i =>
    have hsz : i.size = 1 := by simpa [hq] using hs
    have hadd : ad.add 1 = ⟨ad.block, ad.off + 1, none⟩ := by unfold Addr.add; rw [if_neg (by omega)]
    simp [execOp, he, Instr.fieldAt, Sem.run_bind, run_underlying hu, hf, Instr.sureAddr, fieldPlace, sizeOf, typeInfo, hq, hsz, ho, hadd]
theorem AW_slot {x : Operand} {p : Pred} {lt : TypeId} (hd : Nat.blt d n = true) (hty : TyI P lt 1 false) (hx : ASt.ev ⟨tm, bx, nb⟩ x = some (.val (.one (.st (slotP p))))) (h : AW P n all draw ((.val (.one (.st p)), .no) :: acc) ⟨(d, .val (.one (.st p))) :: tm, bx, nb⟩ ops K) :
    AW P n all draw acc ⟨tm, bx, nb⟩ (⟨some d, .load lt x, ty, pos, aft, none⟩ :: ops) K := by
  refine AW_quiet hd (q_of hx (by simp [Op.operands]) fun G β w U ρ _ hk => ?_) h
  obtain ⟨ad, u, he, hG, hb, h1, h2⟩ := hk
  have hl := hty.loadA w ad [u] (fun j v hv => by
    rcases j with _ | j
    · simp at hv; subst hv
      have hz : ad.add 0 = ad := by unfold Addr.add; rw [if_pos rfl]
      rw [hz]; exact h1
    · simp at hv) rfl
  refine ⟨u, ?_, h2, trivial⟩
  unfold execOp
  simp only [he, Instr.loadAt, Instr.sureAddr, Sem.run_bind, Sem.run_pure, Result.andThen_ok, hl]
  rfl
theorem AW_recAt {x : Operand} {r : Raw} {lt : TypeId} (hd : Nat.blt d n = true) (hty : TyI P lt 2 true) (hx : ASt.ev ⟨tm, bx, nb⟩ x = some (.val (.one (.st (recP r))))) (h : AW P n all draw ((aNum r, .no) :: acc) ⟨(d, aNum r) :: tm, bx, nb⟩ ops K) :
    AW P n all draw acc ⟨tm, bx, nb⟩ (⟨some d, .load lt x, ty, pos, aft, none⟩ :: ops) K := AW_quiet hd (q_loadP hx hty) h
theorem AW_polyAt {x ix : Operand} {xs : List Raw} {k : Nat} {st e : TypeId} {r : Raw} (hd : Nat.blt d n = true) (hu : P.underlying st = some (.slice e)) (hs : (P.info? e).map (·.size) = some 2) (hx : ASt.ev ⟨tm, bx, nb⟩ x = some (.val (.one (.st (polyP xs))))) (hi : ASt.ev ⟨tm, bx, nb⟩ ix = some (.val (aI (k : Int)))) (hr : xs[k]? = some r)
    (h : AW P n all draw ((.val (.one (.st (recP r))), .no) :: acc) ⟨(d, .val (.one (.st (recP r)))) :: tm, bx, nb⟩ ops K) : AW P n all draw acc ⟨tm, bx, nb⟩ (⟨some d, .indexAddr st x ix, ty, pos, aft, none⟩ :: ops) K := AW_quiet hd (q_polyAt hx hi hr hu hs) h
/-- A contract serves what is known better. -/
def ArLe (r r' : AR) : Prop := ∀ (G : Nat → Prop) (β : Nat → Nat) (w : World) (v : Value), r.ok G β w v → r'.ok G β w v
theorem ArLe.refl (r : AR) : ArLe r r := fun _ _ _ _ h => h
def ArsLe : List AR → List AR → Prop
  | [], [] => True
  | a :: l, b :: l' => ArLe a b ∧ ArsLe l l'
  | _, _ => False
theorem oksR_le {G : Nat → Prop} {β : Nat → Nat} {w : World} : ∀ {a b : List AR} {vs : List Value}, ArsLe a b → oksR G β w a vs → oksR G β w b vs
  | [], [], [], _, _ => trivial
  | _ :: _, _ :: _, _ :: _, h, k => ⟨h.1 _ _ _ _ k.1, oksR_le h.2 k.2⟩
  | [], [], _ :: _, _, k => k.elim
  | _ :: _, _ :: _, [], _, k => k.elim
  | [], _ :: _, _, h, _ => h.elim
  | _ :: _, [], _, h, _ => h.elim
theorem Ct.weak {f : FuncId} {a b : List AR} {r : AR} (h : Ct P f b r) (hl : ArsLe a b) : Ct P f a r := ⟨h.enters, h.nop, fun G β w vals hG ha => h.calls G β w vals hG (oksR_le hl ha)⟩
section
variable {x y : Operand} {xt yt : TypeId} {k : IntKind} {m m' : Int} (hd : Nat.blt d n = true)
include hd
theorem AW_eq (hx : ASt.ev ⟨tm, bx, nb⟩ x = some (.val (.one (.i k m)))) (hy : ASt.ev ⟨tm, bx, nb⟩ y = some (.val (.one (.i k m')))) (h : AW P n all draw ((.val (.one (.b (m == m'))), .no) :: acc) ⟨(d, .val (.one (.b (m == m')))) :: tm, bx, nb⟩ ops K) : AW P n all draw acc ⟨tm, bx, nb⟩ (⟨some d, .binOp .eql xt x y yt, ty, pos, aft, none⟩ :: ops) K := AW_quiet hd (q_eq hx hy) h
theorem AW_ne (hx : ASt.ev ⟨tm, bx, nb⟩ x = some (.val (.one (.i k m)))) (hy : ASt.ev ⟨tm, bx, nb⟩ y = some (.val (.one (.i k m')))) (h : AW P n all draw ((.val (.one (.b (m != m'))), .no) :: acc) ⟨(d, .val (.one (.b (m != m')))) :: tm, bx, nb⟩ ops K) : AW P n all draw acc ⟨tm, bx, nb⟩ (⟨some d, .binOp .neq xt x y yt, ty, pos, aft, none⟩ :: ops) K := AW_quiet hd (q_ne hx hy) h
theorem AW_lt (hx : ASt.ev ⟨tm, bx, nb⟩ x = some (.val (.one (.i k m)))) (hy : ASt.ev ⟨tm, bx, nb⟩ y = some (.val (.one (.i k m')))) (h : AW P n all draw ((.val (.one (.b (decide (m < m')))), .no) :: acc) ⟨(d, .val (.one (.b (decide (m < m'))))) :: tm, bx, nb⟩ ops K) : AW P n all draw acc ⟨tm, bx, nb⟩ (⟨some d, .binOp .lss xt x y yt, ty, pos, aft, none⟩ :: ops) K := AW_quiet hd (q_lt hx hy) h
theorem AW_gt (hx : ASt.ev ⟨tm, bx, nb⟩ x = some (.val (.one (.i k m)))) (hy : ASt.ev ⟨tm, bx, nb⟩ y = some (.val (.one (.i k m')))) (h : AW P n all draw ((.val (.one (.b (decide (m' < m)))), .no) :: acc) ⟨(d, .val (.one (.b (decide (m' < m))))) :: tm, bx, nb⟩ ops K) : AW P n all draw acc ⟨tm, bx, nb⟩ (⟨some d, .binOp .gtr xt x y yt, ty, pos, aft, none⟩ :: ops) K := AW_quiet hd (q_gt hx hy) h
theorem AW_ge (hx : ASt.ev ⟨tm, bx, nb⟩ x = some (.val (.one (.i k m)))) (hy : ASt.ev ⟨tm, bx, nb⟩ y = some (.val (.one (.i k m')))) (h : AW P n all draw ((.val (.one (.b (decide (m' ≤ m)))), .no) :: acc) ⟨(d, .val (.one (.b (decide (m' ≤ m))))) :: tm, bx, nb⟩ ops K) : AW P n all draw acc ⟨tm, bx, nb⟩ (⟨some d, .binOp .geq xt x y yt, ty, pos, aft, none⟩ :: ops) K := AW_quiet hd (q_ge hx hy) h
theorem AW_add (hx : ASt.ev ⟨tm, bx, nb⟩ x = some (.val (.one (.i k m)))) (hy : ASt.ev ⟨tm, bx, nb⟩ y = some (.val (.one (.i k m')))) (h : AW P n all draw ((.val (.one (.i k (k.wrap (m + m')))), .no) :: acc) ⟨(d, .val (.one (.i k (k.wrap (m + m'))))) :: tm, bx, nb⟩ ops K) : AW P n all draw acc ⟨tm, bx, nb⟩ (⟨some d, .binOp .add xt x y yt, ty, pos, aft, none⟩ :: ops) K := AW_quiet hd (q_add hx hy) h
end
theorem AW_len {x : Operand} {L : List Nat} {st e : TypeId} (hd : Nat.blt d n = true) (hx : ASt.ev ⟨tm, bx, nb⟩ x = some (.val (.one (.st (magP L))))) (hu : P.underlying st = some (.slice e)) (h : AW P n all draw ((.val (aI (L.length : Int)), .no) :: acc) ⟨(d, .val (aI (L.length : Int))) :: tm, bx, nb⟩ ops K) :
    AW P n all draw acc ⟨tm, bx, nb⟩ (⟨some d, .call { callee := .builtin .len, args := #[x], argTypes := #[st] }, ty, pos, aft, none⟩ :: ops) K := AW_quiet hd (q_len hx rfl hu) h
theorem AW_lenPoly {x : Operand} {xs : List Raw} {st e : TypeId} (hd : Nat.blt d n = true) (hx : ASt.ev ⟨tm, bx, nb⟩ x = some (.val (.one (.st (polyP xs))))) (hu : P.underlying st = some (.slice e)) (h : AW P n all draw ((.val (aI (xs.length : Int)), .no) :: acc) ⟨(d, .val (aI (xs.length : Int))) :: tm, bx, nb⟩ ops K) :
    AW P n all draw acc ⟨tm, bx, nb⟩ (⟨some d, .call { callee := .builtin .len, args := #[x], argTypes := #[st] }, ty, pos, aft, none⟩ :: ops) K := AW_quiet hd (q_lenPoly hx rfl hu) h
/-- A law's contract, as the statement asks it. -/
theorem law_ct {f : FuncId} {args : List AR} {w : World} {vals : List Value} (h : Ct P f args (.val (aB true))) (ha : oksR (fun _ => False) id w args vals) :
    Calls P f vals.toArray w fun e w' => e = .returned (.bool true) ∧ Below w.heap.size w w' :=
  (h.calls (fun _ => False) id w vals (fun _ h => h.elim) ha).mono (by
    rintro e w' ⟨v, rfl, h1, h2⟩
    have h1 : v = .bool true := h1
    subst h1
    exact ⟨rfl, h2⟩)
end
end Go.Proofs.YtonbhpadoplpkaaGreat
/- An abstract machine: the program's types. -/
namespace Go.Proofs.YtonbhpadoplpkaaGreat
open Go.RowKit Go.Deep
theorem ty_bool : TyI Tryz.prog 4 1 false := tyI_one Tryz.underlying4 rfl (by kernel_rfl)
theorem ty_num : TyI Tryz.prog 24 2 true := tyI_row Tryz.underlying24 rfl (by kernel_rfl)
theorem oks_zero (G : Nat → Prop) (β : Nat → Nat) (w : World) : oks G β w [.b false, .st (magP [])] [.bool false, .slice none 0 0] := ⟨rfl, magP_nil G w, trivial⟩
theorem nop_all {cs : List AC} (h : cs.all AC.nop = true) : ∀ c ∈ cs, c.nop = true := List.all_eq_true.1 h
theorem plain_all {vs : List Value} (h : ∀ v ∈ vs, (∃ b, v = .bool b) ∨ v = .slice none 0 0) : ∀ v ∈ vs, NoLimb v ∧ v.oneCell' = true := by
  intro v hv
  rcases h v hv with ⟨b, rfl⟩ | rfl
  · exact ⟨noLimb_bool _, rfl⟩
  · exact ⟨noLimb_slice _ _ _, rfl⟩
theorem tz_num : TyZ Tryz.prog 24 [.b false, .st (magP [])] :=
  tyZ_of (i := (Tryz.prog.info? 24).getD default) (z := .agg #[.bool false, .slice none 0 0]) true [.bool false, .slice none 0 0] (by kernel_rfl) (by kernel_rfl) rfl (fun h => by cases h) (plain_all (by simp)) oks_zero (nop_all rfl)
theorem tb_num : TyB Tryz.prog 24 [(0, 1), (1, 1)] [.b false, .st (magP [])] :=
  tyB_struct (it := (Tryz.prog.info? 24).getD default) (z := .agg #[.bool false, .slice none 0 0]) [.bool false, .slice none 0 0] (by kernel_rfl) (by kernel_rfl) rfl Tryz.underlying24 (by kernel_rfl) oks_zero (nop_all rfl)
theorem tf_neg : TyF Tryz.prog 24 0 0 1 false := tyF_of false Tryz.underlying24 rfl rfl Tryz.underlying4 rfl (by kernel_rfl) (by decide) (fun _ => rfl)
theorem tf_mag : TyF Tryz.prog 24 1 1 1 false := tyF_of false Tryz.underlying24 rfl rfl Tryz.underlying22 rfl (by kernel_rfl) (by decide) (fun _ => rfl)
theorem tu_nums : Tryz.prog.underlying 38 = some (.slice 24) := by kernel_rfl
theorem ts_num : (Tryz.prog.info? 24).map (·.size) = some 2 := by kernel_rfl
theorem ti_num : Tryz.prog.info? 24 = some ((Tryz.prog.info? 24).getD default) := by kernel_rfl
theorem ti_size : ((Tryz.prog.info? 24).getD default).size = 2 := by kernel_rfl
theorem ti_zero : ((Tryz.prog.info? 24).getD default).zero = some (.agg #[.bool false, .slice none 0 0]) := by kernel_rfl
theorem ty_row : TyI Tryz.prog 77 6 true := tyI_row Tryz.underlying77 rfl (by kernel_rfl)
theorem ty_rows : TyI Tryz.prog 116 12 true := tyI_row Tryz.underlying116 rfl (by kernel_rfl)
def zcells : Nat → List Value
  | 0 => []
  | n + 1 => .bool false :: .slice none 0 0 :: zcells n
def zacs : Nat → List AC
  | 0 => []
  | n + 1 => .b false :: .st (magP []) :: zacs n
theorem oks_zeros (G : Nat → Prop) (β : Nat → Nat) (w : World) : ∀ n, oks G β w (zacs n) (zcells n)
  | 0 => trivial
  | n + 1 => ⟨rfl, magP_nil G w, oks_zeros G β w n⟩
theorem plain_zeros : ∀ n, ∀ v ∈ zcells n, NoLimb v ∧ v.oneCell' = true
  | 0, v, h => by cases h
  | n + 1, v, h => by
    simp only [zcells, List.mem_cons] at h
    rcases h with rfl | rfl | h
    · exact ⟨noLimb_bool _, rfl⟩
    · exact ⟨noLimb_slice _ _ _, rfl⟩
    · exact plain_zeros n v h
theorem tz_row : TyZ Tryz.prog 77 [.b false, .st (magP []), .b false, .st (magP []), .b false, .st (magP [])] :=
  tyZ_of (i := (Tryz.prog.info? 77).getD default) (z := .agg (zcells 3).toArray) true (zcells 3) (by kernel_rfl) (by kernel_rfl) rfl (fun h => by cases h) (plain_zeros 3) (fun G β w => oks_zeros G β w 3) (nop_all rfl)
theorem tz_rows : TyZ Tryz.prog 116 [.b false, .st (magP []), .b false, .st (magP []), .b false, .st (magP []), .b false, .st (magP []), .b false, .st (magP []), .b false, .st (magP [])] :=
  tyZ_of (i := (Tryz.prog.info? 116).getD default) (z := .agg (zcells 6).toArray) true (zcells 6) (by kernel_rfl) (by kernel_rfl) rfl (fun h => by cases h) (plain_zeros 6) (fun G β w => oks_zeros G β w 6) (nop_all rfl)
theorem tb_row : TyB Tryz.prog 77 [(0, 2), (2, 4)] [.b false, .st (magP []), .b false, .st (magP []), .b false, .st (magP [])] :=
  tyB_struct (it := (Tryz.prog.info? 77).getD default) (z := .agg (zcells 3).toArray) (zcells 3) (by kernel_rfl) (by kernel_rfl) rfl Tryz.underlying77 (by kernel_rfl) (fun G β w => oks_zeros G β w 3) (nop_all rfl)
theorem tb_rows : TyB Tryz.prog 116 [(0, 6), (6, 6)] [.b false, .st (magP []), .b false, .st (magP []), .b false, .st (magP []), .b false, .st (magP []), .b false, .st (magP []), .b false, .st (magP [])] :=
  tyB_array (it := (Tryz.prog.info? 116).getD default) (ie := (Tryz.prog.info? 77).getD default) (z := .agg (zcells 6).toArray) (zcells 6) (by kernel_rfl) (by kernel_rfl) rfl Tryz.underlying116 (by kernel_rfl)
    (fun i p h => by
      have e : ((Tryz.prog.info? 77).getD default).size = 6 := by kernel_rfl
      rw [e]
      rcases i with _ | _ | i
      · simp at h; exact h.symm
      · simp at h; exact h.symm
      · simp at h) (fun G β w => oks_zeros G β w 6) (nop_all rfl)
theorem tf_row0 : TyF Tryz.prog 77 0 0 2 true := tyF_of true Tryz.underlying77 rfl rfl Tryz.underlying24 rfl (by kernel_rfl) (by decide) (fun h => by cases h)
theorem tf_row1 : TyF Tryz.prog 77 1 2 4 true := tyF_of true Tryz.underlying77 rfl rfl Tryz.underlying75 rfl (by kernel_rfl) (by decide) (fun h => by cases h)
theorem ts_row : (Tryz.prog.info? 77).map (·.size) = some 6 := by kernel_rfl
theorem tm_mixed : Tryz.prog.follows .mixedOrders = true := by kernel_rfl
end Go.Proofs.YtonbhpadoplpkaaGreat
/- The package gcd: size, zero. -/
namespace Go.Proofs.YtonbhpadoplpkaaGreat
open Go.RowKit Go.Deep
set_option maxRecDepth 100000 in
theorem gcd_size (v : Value) (x : Raw) (w : World) (hv : RawV w v x) (hl : x.2.length ≤ 1099511627776) :
    Calls Tryz.prog 66 #[v] w fun e w' => ∃ u, e = .returned u ∧ RawAt w' w.heap.size u (false, x.2) ∧ Below w.heap.size w w' := by
  obtain ⟨b1, A1, l1, c1, rfl, HV⟩ := hv.open
  have HP := Lib.hid HV.out.parts
  have HLE := Lib.hid (show ([] : List Nat).length + x.2.length ≤ 17592186044416 by simp; omega)
  clear hv hl
  go_enter Tryz.func66, Tryz.ntmps66
  go_upto_region 1 with (fail)
  obtain ⟨W0, g, r, hW, hg, hr, bx, br, G_g, S_W0, hb⟩ := boxH2 w (.bool b1) (.slice A1 l1 c1) (.bool false) (.slice none 0 0)
  rw [hW, hr, hg]
  replace HV := Lib.hid (HV.out.stay hb)
  have B_W0 := Lib.hid (show Since w W0 from hb)
  clear hW hg hr hb
  have a0 := bx.out.cell0
  have a1 := bx.out.cell1
  go_wp2_with (at_builtin; refine append_lim (w0 := W0) W0.heap.size rfl _ _ rfl _ [] A1 l1 c1 x.2 (by rfl) (by rfl) HP.out.2.1 HV.out.parts.2.2.2 (Own.nil _ _) (Below.refl _ _) (Nat.le_refl _) HLE.out fun v1 w1 hown hbel _ _ => ?_; obtain ⟨A2, c2, hv, hc, hlim, _⟩ := hown.form; rw [List.nil_append] at hv hc hlim; subst hv; have HN := Lib.hid (show RawAt w1 W0.heap.size (.agg #[.bool false, .slice A2 x.2.length c2]) (false, x.2) from ⟨A2, _, c2, rfl, rfl, hc, hlim, hown.fresh⟩); replace br := Lib.hid (br.out.stay hbel); replace B_W0 := Lib.hid (show Since w w1 from B_W0.out.trans (hbel.mono B_W0.out.size)); clear hown hc hlim hbel a0 a1; have k0 := br.out.cell0; have k1 := br.out.cell1; have fr := br.out.free)
  refine bodyPost_ret (results_cell_row rfl _ _ r 24 #[.bool false, (.slice A2 x.2.length c2)] (0, 0) _ (by rfl) br.out.store Tryz.underlying24 rfl (by kernel_rfl)) rfl ?_
  obtain ⟨W2, hW2, br', p⟩ := br.out.write (.bool false) (.slice A2 x.2.length c2)
  rw [hW2]
  exact ⟨_, rfl, (HN.out.put p).since (by have := G_g.out; have := S_W0.out; omega), B_W0.out.put p (by have := G_g.out; omega)⟩
set_option maxRecDepth 100000 in
theorem gcd_zero (v : Value) (x : Raw) (w : World) (hv : RawV w v x) :
    Calls Tryz.prog 65 #[v] w fun e w' => e = .returned (.bool (decide (x.2.length = 0))) ∧ Below w.heap.size w w' := by
  obtain ⟨b1, A1, l1, c1, rfl, HV⟩ := hv.open
  have HP := Lib.hid HV.out.parts
  clear hv
  go_enter Tryz.func65, Tryz.ntmps65
  go_wp2_with fail
  obtain ⟨W0, g, hW, hg, bx, G_g, S_W0, hb⟩ := boxH w (.bool b1) (.slice A1 l1 c1)
  rw [hW, hg]
  replace HV := Lib.hid (HV.out.stay hb)
  have B_W0 := Lib.hid (show Since w W0 from hb)
  clear hW hg hb
  have a0 := bx.out.cell0
  have a1 := bx.out.cell1
  go_wp2_with fail
  go_ret
  refine ⟨?_, G_g.out ▸ B_W0.out⟩
  rw [← HP.out.2.1]
  by_cases h : l1 = 0
  · subst h; rfl
  · rw [decide_eq_false h, ← (show ((l1 : Int) == 0) = false from beq_eq_false_iff_ne.2 (by omega))]; rfl
end Go.Proofs.YtonbhpadoplpkaaGreat
/- Long division, plain: a guess of a quotient's limb, from three limbs and two. -/
namespace Go.Proofs.YtonbhpadoplpkaaGreat
/-- What a guess is: not too small, and not much too great. -/
structure Guess (hi lo next top below g : Nat) : Prop where
  lt : g < W64
  ge : ∀ t, t < W64 → t * (top * W64 + below) ≤ (hi * W64 + lo) * W64 + next → t ≤ g
  le : g * top ≤ hi * W64 + lo ∨ top ≤ hi
/-- The state of the loop that makes it less. -/
structure Guessing (hi lo next top below q r : Nat) : Prop where
  lt : q < W64
  sum : q * top + r = hi * W64 + lo
  ge : ∀ t, t < W64 → t * (top * W64 + below) ≤ (hi * W64 + lo) * W64 + next → t ≤ q
theorem Guess.most {hi lo next top below : Nat} (h : top ≤ hi) : Guess hi lo next top below (W64 - 1) :=
  ⟨by have := W64_pos; omega, fun t ht _ => by omega, .inr h⟩
theorem alg_guess (W t top below r next q : Nat) (h : q * below = r * W + next + 1 + t) : q * (top * W + below) = (q * top + r) * W + next + 1 + t := by
  rw [Nat.mul_add, h, Nat.add_mul, ← Nat.mul_assoc]; omega
theorem Guessing.start {hi lo next top below : Nat} (ht : 0 < top) (hh : hi < top) (hl : lo < W64) (hn : next < W64) : Guessing hi lo next top below ((hi * W64 + lo) / top) ((hi * W64 + lo) % top) := by
  refine ⟨?_, ?_, fun t _ h => ?_⟩
  · rw [Nat.div_lt_iff_lt_mul ht]
    have := Nat.mul_le_mul_right W64 (show hi + 1 ≤ top from hh)
    rw [Nat.add_mul, Nat.one_mul] at this
    rw [Nat.mul_comm W64 top]; omega
  · rw [Nat.mul_comm]; exact Nat.div_add_mod _ _
  · refine (Nat.le_div_iff_mul_le ht).2 ?_
    rcases Nat.lt_or_ge (hi * W64 + lo) (t * top) with h1 | h1
    · exfalso
      have h2 := Nat.mul_le_mul_right W64 (show hi * W64 + lo + 1 ≤ t * top from h1)
      rw [Nat.add_mul _ 1, Nat.one_mul] at h2
      rw [Nat.mul_add, ← Nat.mul_assoc] at h
      omega
    · exact h1
theorem Guessing.stop {hi lo next top below q r : Nat} (h : Guessing hi lo next top below q r) : Guess hi lo next top below q :=
  ⟨h.lt, h.ge, .inl (by have := h.sum; omega)⟩
theorem Guessing.less {hi lo next top below q r : Nat} (h : Guessing hi lo next top below q r) (hb : r * W64 + next < q * below) : 1 ≤ q ∧ Guessing hi lo next top below (q - 1) (r + top) := by
  have hq : 1 ≤ q := by
    rcases Nat.eq_zero_or_pos q with h0 | h0
    · rw [h0, Nat.zero_mul] at hb; omega
    · exact h0
  obtain ⟨p, rfl⟩ : ∃ p, q = p + 1 := ⟨q - 1, by omega⟩
  have hs := h.sum
  have hl := h.lt
  refine ⟨hq, ⟨by omega, by rw [Nat.add_sub_cancel]; rw [Nat.add_mul, Nat.one_mul] at hs; omega, fun t h1 h2 => ?_⟩⟩
  have h3 := h.ge t h1 h2
  rcases Nat.lt_or_eq_of_le h3 with h4 | h4
  · omega
  · exfalso
    subst h4
    obtain ⟨d, hd⟩ : ∃ d, (p + 1) * below = r * W64 + next + 1 + d := ⟨(p + 1) * below - (r * W64 + next + 1), by omega⟩
    have h5 := alg_guess W64 d top below r next (p + 1) hd
    rw [hs] at h5
    omega
/-- The guess of a window: not below the quotient, and too much by less than one limb more. -/
theorem guess_window {win vs : List Nat} (hw : Small win) (hv : Small vs) {n : Nat} (hvl : vs.length = n + 2) (hwl : win.length = n + 3) {g : Nat}
    (h : Guess (win.getD (n + 2) 0) (win.getD (n + 1) 0) (win.getD n 0) (vs.getD (n + 1) 0) (vs.getD n 0) g) (hQ : val win < val vs * W64) :
    val win / val vs ≤ g ∧ g * val vs < val win + W64 ^ (n + 2) := by
  have e1 : val win = val (win.take n) + W64 ^ n * ((win.getD (n + 2) 0 * W64 + win.getD (n + 1) 0) * W64 + win.getD n 0) := by
    have h3 := val_split win n (by omega)
    have h4 := val_drop_step win n (by omega)
    have h5 := val_drop_step win (n + 1) (by omega)
    have h6 := val_drop_step win (n + 1 + 1) (by omega)
    rw [List.drop_of_length_le (i := n + 1 + 1 + 1) (by omega), val_nil, Nat.mul_zero, Nat.add_zero] at h6
    rw [h3, h4, h5, h6]
    congr 2
    show win.getD n 0 + W64 * (win.getD (n + 1) 0 + W64 * win.getD (n + 2) 0) = _
    generalize win.getD n 0 = a
    generalize win.getD (n + 1) 0 = b
    generalize win.getD (n + 2) 0 = c
    grind
  have e2 : val vs = val (vs.take n) + W64 ^ n * (vs.getD (n + 1) 0 * W64 + vs.getD n 0) := by
    have h3 := val_split vs n (by omega)
    have h4 := val_drop_step vs n (by omega)
    have h5 := val_drop_step vs (n + 1) (by omega)
    rw [List.drop_of_length_le (i := n + 1 + 1) (by omega), val_nil, Nat.mul_zero, Nat.add_zero] at h5
    rw [h3, h4, h5]
    congr 2
    generalize vs.getD n 0 = a
    generalize vs.getD (n + 1) 0 = b
    grind
  have h6 := val_lt (hw.take n)
  rw [List.length_take, Nat.min_eq_left (by omega)] at h6
  have h7 := val_lt (hv.take n)
  rw [List.length_take, Nat.min_eq_left (by omega)] at h7
  have h8 := hv.getD n
  have h9 := hw.getD n
  have hg := h.lt
  constructor
  · have hQ2 : val win / val vs < W64 := Nat.div_lt_of_lt_mul hQ
    refine h.ge _ hQ2 ?_
    have h1 := Nat.div_mul_le_self (val win) (val vs)
    generalize val win / val vs = Q at *
    rw [e1, e2] at h1
    generalize (win.getD (n + 2) 0 * W64 + win.getD (n + 1) 0) * W64 + win.getD n 0 = t at *
    generalize vs.getD (n + 1) 0 * W64 + vs.getD n 0 = v at *
    generalize val (vs.take n) = a at *
    generalize val (win.take n) = b at *
    generalize W64 ^ n = P at *
    rcases Nat.lt_or_ge t (Q * v) with h | h
    · exfalso
      have h7 := Nat.mul_le_mul_left P (show t + 1 ≤ Q * v from h)
      have h8 : Q * (a + P * v) = Q * a + P * (Q * v) := by grind
      rw [Nat.mul_add, Nat.mul_one] at h7
      have : 0 ≤ Q * a := Nat.zero_le _
      omega
    · exact h
  · rw [e1, e2, Nat.pow_add]
    have hle := h.le
    have hP : 0 < W64 ^ n := Nat.pow_pos W64_pos
    generalize win.getD (n + 2) 0 = hi at *
    generalize win.getD (n + 1) 0 = lo at *
    generalize win.getD n 0 = nx at *
    generalize vs.getD (n + 1) 0 = top at *
    generalize vs.getD n 0 = bl at *
    generalize val (vs.take n) = a at *
    generalize val (win.take n) = b at *
    generalize W64 ^ n = P at *
    -- g (a + P (top W + bl)) < g P (top W + W)
    have k1 : a + P * (top * W64 + bl) < P * ((top + 1) * W64) := by
      have k2 : P * (bl + 1) ≤ P * W64 := Nat.mul_le_mul_left P h8
      rw [Nat.mul_add, Nat.mul_one] at k2
      rw [Nat.mul_add, Nat.add_mul, Nat.one_mul, Nat.mul_add]
      omega
    have k3 : g * (a + P * (top * W64 + bl)) ≤ g * (P * ((top + 1) * W64)) := Nat.mul_le_mul_left g (Nat.le_of_lt k1)
    have k4 : g * (P * ((top + 1) * W64)) = P * ((g * top + g) * W64) := by grind
    rw [k4] at k3
    have k5 : g * top + g < hi * W64 + lo + W64 := by
      rcases hle with h | h
      · omega
      · have k6 := Nat.mul_le_mul (show g + 1 ≤ W64 from hg) (show top + 1 ≤ hi + 1 by omega)
        rw [Nat.mul_add, Nat.mul_one, Nat.add_mul, Nat.one_mul, Nat.mul_add, Nat.mul_one, Nat.mul_comm W64 hi] at k6
        omega
    have k7 : P * ((g * top + g) * W64) + P * W64 ≤ P * ((hi * W64 + lo + W64) * W64) := by
      rw [← Nat.mul_add]
      refine Nat.mul_le_mul_left P ?_
      have := Nat.mul_le_mul_right W64 (show g * top + g + 1 ≤ hi * W64 + lo + W64 from k5)
      rwa [Nat.add_mul _ 1, Nat.one_mul] at this
    have k8 : P * ((hi * W64 + lo + W64) * W64) = P * ((hi * W64 + lo) * W64) + P * W64 ^ 2 := by
      rw [Nat.add_mul, Nat.mul_add, Nat.pow_two]
    have k9 : 0 < P * W64 := Nat.mul_pos hP W64_pos
    rw [Nat.mul_add P _ nx]
    omega
end Go.Proofs.YtonbhpadoplpkaaGreat
/- The package divide: guess, take, give. -/
namespace Go.Proofs.YtonbhpadoplpkaaGreat
open Go.RowKit Go.Deep
theorem wrap_over {r t : Nat} (hr : r < W64) (ht : t < W64) (h : W64 ≤ r + t) : ∃ s : Nat, IntKind.u64.wrap ((r : Int) + (t : Int)) = (s : Int) ∧ s < t :=
  ⟨r + t - W64, by
    have hW := W64_eq
    rw [hW] at hr ht h
    rw [hW, IntKind.wrap_u64]
    omega, by omega⟩
theorem wrap_under {r t : Nat} (h : r + t < W64) : IntKind.u64.wrap ((r : Int) + (t : Int)) = ((r + t : Nat) : Int) := by
  rw [W64_eq] at h
  rw [IntKind.wrap_u64]
  omega
set_option maxHeartbeats 1000000 in
set_option maxRecDepth 100000 in
theorem divide_guess (hi lo next top below : Nat) (w : World) (_hhl : hi < W64) (hll : lo < W64) (hnl : next < W64) (htl : top < W64) (hbl : below < W64) (ht : 0 < top) :
    Calls Tryz.prog 131 #[.int .u64 (hi : Int), .int .u64 (lo : Int), .int .u64 (next : Int), .int .u64 (top : Int), .int .u64 (below : Int)] w fun e w' => ∃ g : Nat, e = .returned (.int .u64 (g : Int)) ∧ Guess hi lo next top below g ∧ ∃ q, w' = w.drewN q := by
  by_cases hge : top ≤ hi
  · have hgI : (top : Int) ≤ (hi : Int) := by omega
    have HGM := Lib.hid (Guess.most (lo := lo) (next := next) (below := below) hge)
    clear hge
    go_enter Tryz.func131, Tryz.ntmps131
    go_wp2_with fail
    go_ret
    exact ⟨W64 - 1, by rw [show ((W64 - 1 : Nat) : Int) = 18446744073709551615 by have := W64_eq; omega]; rfl, HGM.out, 0, rfl⟩
  · have hgI : ¬ (top : Int) ≤ (hi : Int) := by omega
    have hlt : hi < top := by omega
    have HST := Lib.hid (Guessing.start (below := below) ht hlt hll hnl)
    have HDIV := Lib.hid (bits_div64 hi lo top hll htl hlt)
    have HRL := Lib.hid (show (hi * W64 + lo) % top < W64 from Nat.lt_trans (Nat.mod_lt _ ht) htl)
    clear hge
    go_enter Tryz.func131, Tryz.ntmps131
    go_wp2_with fail
    refine (HDIV.out _).mono ?_
    rintro e w1 ⟨rfl, m0, rfl⟩
    obtain ⟨q0, hq0⟩ : ∃ q, (hi * W64 + lo) / top = q := ⟨_, rfl⟩
    obtain ⟨r0, hr0⟩ : ∃ q, (hi * W64 + lo) % top = q := ⟨_, rfl⟩
    rw [hq0, hr0] at HST
    rw [hr0] at HRL
    rw [hq0, hr0]
    clear hq0 hr0
    go_wp2_with fail
    go_loopw [11, 12] (fun t11 t12 wr => ∃ (q r : Nat), t11 = .int .u64 (q : Int) ∧ t12 = .int .u64 (r : Int) ∧ r < W64 ∧ Guessing hi lo next top below q r ∧ ∃ m, wr = w.drewN m) (fun t11 _ _ => (intOf t11).toNat)
    case atStart => exact ⟨q0, r0, rfl, rfl, HRL.out, HST.out, m0, rfl⟩
    case round =>
      obtain ⟨q, r, rfl, rfl, hr, hG, m, rfl⟩ := hrel
      have hql := hG.lt
      have hmul := Lib.hid (bits_mul64 q below hql hbl)
      have hsp := mul_split q below
      have HSTOP := Lib.hid hG.stop
      go_wp2_with fail
      refine (hmul.out _).mono ?_
      rintro e w1 ⟨rfl, rfl⟩
      obtain ⟨h, hh⟩ : ∃ h, mulHi q below = h := ⟨_, rfl⟩
      obtain ⟨l, hl⟩ : ∃ l, mulLo q below = l := ⟨_, rfl⟩
      rw [hh, hl] at hsp ⊢
      have hlW : l < W64 := hl ▸ mulLo_lt q below
      clear hh hl
      rcases Nat.lt_trichotomy h r with h1 | h1 | h1
      · have t1 : (h : Int) < (r : Int) := by omega
        clear h1
        go_wp2_with fail
        go_ret
        exact ⟨q, rfl, HSTOP.out, _, rfl⟩
      · rw [h1] at hsp ⊢
        clear h1
        by_cases h2 : l ≤ next
        · have t2 : (l : Int) ≤ (next : Int) := by omega
          clear h2
          go_wp2_with fail
          go_ret
          exact ⟨q, rfl, HSTOP.out, _, rfl⟩
        · have t2 : ¬ (l : Int) ≤ (next : Int) := by omega
          have hb : r * W64 + next < q * below := by rw [← hsp, Nat.mul_comm]; omega
          clear h2
          obtain ⟨hq1, hG2⟩ := hG.less hb
          have HG2 := Lib.hid hG2
          have hqI : (1 : Int) ≤ (q : Int) := by omega
          have hqW := lt_W64 hql
          by_cases hov : r + top < W64
          · have hw := wrap_under hov
            have hcmp : ¬ (((r + top : Nat) : Int) < (top : Int)) := by omega
            have HOV := Lib.hid hov
            clear hov
            go_wp2_with fail
            exact ⟨⟨q - 1, r + top, by congr 1; omega, rfl, HOV.out, HG2.out, _, rfl⟩, by simp [intOf]; omega⟩
          · obtain ⟨s, hw, hs⟩ := wrap_over hr htl (by omega)
            have hcmp : (s : Int) < (top : Int) := by omega
            clear hov
            go_wp2_with fail
            go_ret
            exact ⟨q - 1, by rw [show ((q - 1 : Nat) : Int) = (q : Int) - 1 by omega]; rfl, HG2.out.stop, _, rfl⟩
      · have t1 : ¬ (h : Int) < (r : Int) := by omega
        have t2 : ((h : Int) == (r : Int)) = false := beq_eq_false_iff_ne.2 (by omega)
        have hb : r * W64 + next < q * below := by
          have h5 := Nat.mul_le_mul_left W64 (show r + 1 ≤ h from h1)
          rw [Nat.mul_add, Nat.mul_one, Nat.mul_comm W64 r] at h5
          omega
        clear h1
        obtain ⟨hq1, hG2⟩ := hG.less hb
        have HG2 := Lib.hid hG2
        have hqI : (1 : Int) ≤ (q : Int) := by omega
        have hqW := lt_W64 hql
        by_cases hov : r + top < W64
        · have hw := wrap_under hov
          have hcmp : ¬ (((r + top : Nat) : Int) < (top : Int)) := by omega
          have HOV := Lib.hid hov
          clear hov
          go_wp2_with fail
          exact ⟨⟨q - 1, r + top, by congr 1; omega, rfl, HOV.out, HG2.out, _, rfl⟩, by simp [intOf]; omega⟩
        · obtain ⟨s, hw, hs⟩ := wrap_over hr htl (by omega)
          have hcmp : (s : Int) < (top : Int) := by omega
          clear hov
          go_wp2_with fail
          go_ret
          exact ⟨q - 1, by rw [show ((q - 1 : Nat) : Int) = (q : Int) - 1 by omega]; rfl, HG2.out.stop, _, rfl⟩
theorem Lim.off {w w' : World} {A : Option Addr} {xs : List Nat} {g : Nat} (h : Lim w w.heap.size A xs) (hg : w.grownBy w' (some g)) (hne : 0 < xs.length → ∀ ad, A = some ad → ad.block ≠ g) : Lim w' w'.heap.size A xs := by
  refine ⟨h.small, fun hn => ?_⟩
  obtain ⟨ad, ha, hb, hc⟩ := h.cells hn
  refine ⟨ad, ha, Nat.lt_of_lt_of_le hb hg.size, fun j hj => ?_⟩
  rw [cell_of_block (w := w)]
  · exact hc j hj
  · rw [block_of_add]
    exact hg.block _ hb (by intro e; injection e with e; exact hne hn ad ha e)
theorem drew_grown (w : World) (n : Nat) (k : Option Nat) : w.grownBy (w.drewN n) k := ⟨rfl, rfl, rfl, Nat.le_refl _, fun _ _ _ => rfl⟩
set_option maxHeartbeats 4000000 in
set_option maxRecDepth 100000 in
theorem divide_take (g p la ca c2 n q0 : Nat) (us : List Nat) (A2 : Option Addr) (vs : List Nat) (w : World) (hrow0 : Row w g us) (h2 : Lim w w.heap.size A2 vs) (hne : ∀ ad, A2 = some ad → ad.block ≠ g) (hvl : vs.length = n + 1) (hp : p + (n + 2) ≤ us.length) (hla : n + 2 ≤ la) (hul : us.length ≤ 1099511627776) (hq0W : q0 < W64) :
    Calls Tryz.prog 132 #[.slice (some ⟨g, p, none⟩) la ca, .slice A2 (n + 1) c2, .int .u64 (q0 : Int)] w fun e w' => ∃ (b : Nat) (us' : List Nat), e = .returned (.bool (decide (b = 1))) ∧ b ≤ 1 ∧ Row w' g us' ∧ us'.length = us.length ∧ us'.take p = us.take p ∧ us'.drop (p + (n + 2)) = us.drop (p + (n + 2)) ∧ val ((us'.drop p).take (n + 2)) + q0 * val vs = val ((us.drop p).take (n + 2)) + W64 ^ (n + 2) * b ∧ w.grownBy w' (some g) := by
  have nI : (n : Int) + 2 ≤ (la : Int) := by omega
  have nI2 : (n : Int) ≤ 1099511627776 := by omega
  have HVL := Lib.hid hvl
  have HP := Lib.hid hp
  have HUL := Lib.hid hul
  clear hvl hp hul hla
  go_enter Tryz.func132, Tryz.ntmps132
  go_wp2_with fail
  go_loopw [7, 8, 15] (fun t7 t8 t15 wr => ∃ (i b c : Nat) (os : List Nat), i ≤ n + 1 ∧ b ≤ 1 ∧ c < W64 ∧ t8 = .int .u64 (b : Int) ∧ t7 = .int .u64 (c : Int) ∧ t15 = .int .i64 (i : Int) ∧ Hid (os.length = us.length) ∧ Hid (Row wr g os) ∧ Hid (w.grownBy wr (some g)) ∧ Hid (os.take p = us.take p) ∧ Hid (os.drop (p + i) = us.drop (p + i)) ∧ Hid (val ((os.drop p).take i) + q0 * val (vs.take i) = val ((us.drop p).take i) + W64 ^ i * (b + c))) (fun _ _ t15 _ => n + 1 - (intOf t15).toNat)
  case atStart => exact ⟨0, 0, 0, us, by omega, by omega, W64_pos, rfl, rfl, rfl, Lib.hid rfl, Lib.hid hrow0, Lib.hid ⟨rfl, rfl, rfl, Nat.le_refl _, fun _ _ _ => rfl⟩, Lib.hid rfl, Lib.hid rfl, Lib.hid (by simp)⟩
  case round =>
    obtain ⟨i, b, c, os, hi, hb, hc, rfl, rfl, rfl, HO, HROW, HGR, HT, HD, HV⟩ := hrel
    have hil : p + (n + 2) ≤ os.length := by rw [HO.out]; exact HP.out
    have HLV := Lib.hid (h2.off HGR.out (fun _ => hne))
    by_cases hlt : i < n + 1
    · obtain ⟨ad, rfl, hb3, hcell⟩ := HLV.out.at_ (k := i) (by rw [HVL.out]; exact hlt)
      obtain ⟨y, hy⟩ : ∃ y, vs.getD i 0 = y := ⟨_, rfl⟩
      obtain ⟨u, hu⟩ : ∃ u, os.getD (p + i) 0 = u := ⟨_, rfl⟩
      have hyW : y < W64 := hy ▸ h2.small.getD i
      have huW : u < W64 := hu ▸ HROW.out.small.getD (p + i)
      have hu2 : (us.drop p).getD i 0 = u := by rw [getD_drop, ← getD_of_drop HD.out, hu]
      rw [hy] at hcell
      have hcu := HROW.out.cell (k := p + i) (by omega)
      have hfu := HROW.out.free (p + i)
      rw [hu] at hcu
      have hm1 := mulsub_step (mul_split q0 y) (add_split (mulLo q0 y) c 0)
      have hcW := mulsub_bound hq0W hyW hc hm1
      have hs1 := sub_split huW (addLo_lt (mulLo q0 y) c 0) hb
      have hb1 := subHi_le u (addLo (mulLo q0 y) c 0) b
      have HSET := Lib.hid (HROW.out.set (k := p + i) (x := subLo u (addLo (mulLo q0 y) c 0) b) (by omega) (subLo_lt _ _ _))
      have HGR2 := Lib.hid (grownBy_trans HGR.out (only_set wr ⟨g, p + i, none⟩ (.int .u64 (subLo u (addLo (mulLo q0 y) c 0) b : Nat))))
      have ha1 := add64_run0 (mulLo q0 y) c
      have ha2 := sub64_run u (addLo (mulLo q0 y) c 0) b hb
      have hmul := Lib.hid (bits_mul64 q0 y hq0W hyW)
      have hbc := lt_W64 hcW
      rw [Int.natCast_add] at hbc
      have HS := Lib.hid (show val (((os.set (p + i) (subLo u (addLo (mulLo q0 y) c 0) b)).drop p).take (i + 1)) + q0 * val (vs.take (i + 1)) = val ((us.drop p).take (i + 1)) + W64 ^ (i + 1) * (subHi u (addLo (mulLo q0 y) c 0) b + (mulHi q0 y + addHi (mulLo q0 y) c 0)) by
        have hV := HV.out
        rw [drop_set_add, val_take_set _ _ _ (by rw [List.length_drop]; omega), val_take_step vs, val_take_step (us.drop p), hy, hu2, Nat.pow_succ]
        exact alg_mulsub W64 hV hs1 hm1)
      have HL := Lib.hid (show (os.set (p + i) (subLo u (addLo (mulLo q0 y) c 0) b)).length = us.length by rw [List.length_set, HO.out])
      have HT2 := Lib.hid (show (os.set (p + i) (subLo u (addLo (mulLo q0 y) c 0) b)).take p = us.take p by rw [List.take_set_of_le (by omega), HT.out])
      have HD2 := Lib.hid (show (os.set (p + i) (subLo u (addLo (mulLo q0 y) c 0) b)).drop (p + (i + 1)) = us.drop (p + (i + 1)) by
        rw [List.drop_set_of_lt (by omega), ← Nat.add_assoc]; exact drop_more HD.out 1)
      have HY := Lib.hid hy
      have HU := Lib.hid hu
      have HU2 := Lib.hid hu2
      have hiI : (i : Int) < (n : Int) + 1 := by omega
      have hiI2 : (i : Int) < (la : Int) := by omega
      clear hm1 hs1 hy hu hu2
      go_wp2_with fail
      refine (hmul.out _).mono ?_
      rintro e w1 ⟨rfl, rfl⟩
      go_wp2_with fail
      exact ⟨⟨i + 1, _, _, _, by omega, hb1, hcW, rfl, by simp only [Int.natCast_add], by go_num, HL, HSET, HGR2, HT2, HD2, HS⟩, by simp [intOf]; omega⟩
    · obtain rfl : i = n + 1 := by omega
      obtain ⟨u, hu⟩ : ∃ u, os.getD (p + (n + 1)) 0 = u := ⟨_, rfl⟩
      have huW : u < W64 := hu ▸ HROW.out.small.getD _
      have hu2 : (us.drop p).getD (n + 1) 0 = u := by rw [getD_drop, ← getD_of_drop HD.out, hu]
      have hcu := HROW.out.cell (k := p + (n + 1)) (by omega)
      have hfu := HROW.out.free (p + (n + 1))
      rw [hu] at hcu
      have hs1 := sub_split huW hc hb
      have hb1 := subHi_le u c b
      have HSET := Lib.hid (HROW.out.set (k := p + (n + 1)) (x := subLo u c b) (by omega) (subLo_lt _ _ _))
      have HGR2 := Lib.hid (grownBy_trans HGR.out (only_set wr ⟨g, p + (n + 1), none⟩ (.int .u64 (subLo u c b : Nat))))
      have ha2 := sub64_run u c b hb
      have HS := Lib.hid (show val (((os.set (p + (n + 1)) (subLo u c b)).drop p).take (n + 2)) + q0 * val vs = val ((us.drop p).take (n + 2)) + W64 ^ (n + 2) * subHi u c b by
        have hV := HV.out
        rw [show vs.take (n + 1) = vs from List.take_of_length_le (by rw [HVL.out]; omega)] at hV
        rw [drop_set_add, show n + 2 = (n + 1) + 1 by rfl, val_take_set _ _ _ (by rw [List.length_drop]; omega), val_take_step (us.drop p), hu2, Nat.pow_succ]
        exact alg_sub W64 hV hs1)
      have HL := Lib.hid (show (os.set (p + (n + 1)) (subLo u c b)).length = us.length by rw [List.length_set, HO.out])
      have HT2 := Lib.hid (show (os.set (p + (n + 1)) (subLo u c b)).take p = us.take p by rw [List.take_set_of_le (by omega), HT.out])
      have HD2 := Lib.hid (show (os.set (p + (n + 1)) (subLo u c b)).drop (p + (n + 2)) = us.drop (p + (n + 2)) by
        rw [List.drop_set_of_lt (by omega)]; exact drop_more HD.out 1)
      have HU := Lib.hid (And.intro hu hu2)
      have hiI2 : (n : Int) + 1 < (la : Int) := by omega
      clear hs1 hu hu2
      obtain ⟨b1, hb1e⟩ : ∃ b1, subHi u c b = b1 := ⟨_, rfl⟩
      rw [hb1e] at ha2 hb1 HS
      clear hb1e
      have hcase : b1 = 0 ∨ b1 = 1 := by omega
      rcases hcase with rfl | rfl
      · rw [Int.natCast_zero] at ha2
        go_wp2_with fail
        go_ret
        exact ⟨0, _, rfl, by omega, HSET.out, HL.out, HT2.out, HD2.out, HS.out, HGR2.out⟩
      · rw [Int.natCast_one] at ha2
        go_wp2_with fail
        go_ret
        exact ⟨1, _, rfl, by omega, HSET.out, HL.out, HT2.out, HD2.out, HS.out, HGR2.out⟩
set_option maxHeartbeats 4000000 in
set_option maxRecDepth 100000 in
theorem divide_give (g p la ca c2 n : Nat) (us : List Nat) (A2 : Option Addr) (vs : List Nat) (w : World) (hrow0 : Row w g us) (h2 : Lim w w.heap.size A2 vs) (hne : ∀ ad, A2 = some ad → ad.block ≠ g) (hvl : vs.length = n + 1) (hp : p + (n + 2) ≤ us.length) (hla : n + 2 ≤ la) (hul : us.length ≤ 1099511627776) :
    Calls Tryz.prog 133 #[.slice (some ⟨g, p, none⟩) la ca, .slice A2 (n + 1) c2] w fun e w' => ∃ (v : Value) (c : Nat) (us' : List Nat), e = .returned v ∧ c ≤ 1 ∧ Row w' g us' ∧ us'.length = us.length ∧ us'.take p = us.take p ∧ us'.drop (p + (n + 2)) = us.drop (p + (n + 2)) ∧ val ((us'.drop p).take (n + 2)) + W64 ^ (n + 2) * c = val ((us.drop p).take (n + 2)) + val vs ∧ w.grownBy w' (some g) := by
  have nI : (n : Int) + 2 ≤ (la : Int) := by omega
  have nI2 : (n : Int) ≤ 1099511627776 := by omega
  have HVL := Lib.hid hvl
  have HP := Lib.hid hp
  have HUL := Lib.hid hul
  clear hvl hp hul hla
  go_enter Tryz.func133, Tryz.ntmps133
  go_wp2_with fail
  go_loopw [4, 8] (fun t4 t8 wr => ∃ (i c : Nat) (os : List Nat), i ≤ n + 1 ∧ c ≤ 1 ∧ t4 = .int .u64 (c : Int) ∧ t8 = .int .i64 (i : Int) ∧ Hid (os.length = us.length) ∧ Hid (Row wr g os) ∧ Hid (w.grownBy wr (some g)) ∧ Hid (os.take p = us.take p) ∧ Hid (os.drop (p + i) = us.drop (p + i)) ∧ Hid (val ((os.drop p).take i) + W64 ^ i * c = val ((us.drop p).take i) + val (vs.take i))) (fun _ t8 _ => n + 1 - (intOf t8).toNat)
  case atStart => exact ⟨0, 0, us, by omega, by omega, rfl, rfl, Lib.hid rfl, Lib.hid hrow0, Lib.hid ⟨rfl, rfl, rfl, Nat.le_refl _, fun _ _ _ => rfl⟩, Lib.hid rfl, Lib.hid rfl, Lib.hid (by simp)⟩
  case round =>
    obtain ⟨i, c, os, hi, hc, rfl, rfl, HO, HROW, HGR, HT, HD, HV⟩ := hrel
    have hil : p + (n + 2) ≤ os.length := by rw [HO.out]; exact HP.out
    have HLV := Lib.hid (h2.off HGR.out (fun _ => hne))
    by_cases hlt : i < n + 1
    · obtain ⟨ad, rfl, hb3, hcell⟩ := HLV.out.at_ (k := i) (by rw [HVL.out]; exact hlt)
      obtain ⟨y, hy⟩ : ∃ y, vs.getD i 0 = y := ⟨_, rfl⟩
      obtain ⟨u, hu⟩ : ∃ u, os.getD (p + i) 0 = u := ⟨_, rfl⟩
      have hyW : y < W64 := hy ▸ h2.small.getD i
      have huW : u < W64 := hu ▸ HROW.out.small.getD (p + i)
      have hu2 : (us.drop p).getD i 0 = u := by rw [getD_drop, ← getD_of_drop HD.out, hu]
      rw [hy] at hcell
      have hcu := HROW.out.cell (k := p + i) (by omega)
      have hfu := HROW.out.free (p + i)
      rw [hu] at hcu
      have hs1 := add_split u y c
      have hc1 := addHi_le huW hyW hc
      have HS := Lib.hid (show val (((os.set (p + i) (addLo u y c)).drop p).take (i + 1)) + W64 ^ (i + 1) * addHi u y c = val ((us.drop p).take (i + 1)) + val (vs.take (i + 1)) by
        have hV := HV.out
        rw [drop_set_add, val_take_set _ _ _ (by rw [List.length_drop]; omega), val_take_step vs, val_take_step (us.drop p), hy, hu2, Nat.pow_succ]
        exact alg_add W64 hV hs1)
      have HL := Lib.hid (show (os.set (p + i) (addLo u y c)).length = us.length by rw [List.length_set, HO.out])
      have HT2 := Lib.hid (show (os.set (p + i) (addLo u y c)).take p = us.take p by rw [List.take_set_of_le (by omega), HT.out])
      have HD2 := Lib.hid (show (os.set (p + i) (addLo u y c)).drop (p + (i + 1)) = us.drop (p + (i + 1)) by
        rw [List.drop_set_of_lt (by omega), ← Nat.add_assoc]; exact drop_more HD.out 1)
      have ha := add64_run u y c hc
      have r1 := later_cell hcell
      have r2 := later_cell hcu
      have hiI : (i : Int) < (n : Int) + 1 := by omega
      have hiI2 : (i : Int) < (la : Int) := by omega
      have HU := Lib.hid (And.intro hu hy)
      have HU2 := Lib.hid hu2
      clear hu hy hu2 hs1
      go_wp2_with fail
      have HGN := Lib.hid (fun m => grownBy_trans HGR.out (show wr.grownBy ((wr.drewN m).setCell ⟨g, p + i, none⟩ (.int .u64 (addLo u y c : Nat))) (some g) from grownBy_trans (drew_grown wr m _) (only_set (wr.drewN m) ⟨g, p + i, none⟩ (.int .u64 (addLo u y c : Nat)))))
      have HSN := Lib.hid (fun m => show Row ((wr.drewN m).setCell ⟨g, p + i, none⟩ (.int .u64 (addLo u y c : Nat))) g (os.set (p + i) (addLo u y c)) from (HROW.out.drewN m).set (by omega) (addLo_lt _ _ _))
      go_region_with (fail)
      all_goals
        go_wp2_with fail
        exact ⟨⟨i + 1, _, _, by omega, hc1, rfl, by go_num, HL, Lib.hid (HSN.out _), Lib.hid (HGN.out _), HT2, HD2, HS⟩, by simp [intOf]; omega⟩
    · obtain rfl : i = n + 1 := by omega
      obtain ⟨u, hu⟩ : ∃ u, os.getD (p + (n + 1)) 0 = u := ⟨_, rfl⟩
      have huW : u < W64 := hu ▸ HROW.out.small.getD _
      have hu2 : (us.drop p).getD (n + 1) 0 = u := by rw [getD_drop, ← getD_of_drop HD.out, hu]
      have hcu := HROW.out.cell (k := p + (n + 1)) (by omega)
      have hfu := HROW.out.free (p + (n + 1))
      rw [hu] at hcu
      have hs1 := add_split u 0 c
      have hc1 := addHi_le huW W64_pos hc
      have hwr : IntKind.u64.wrap ((u : Int) + (c : Int)) = ((addLo u 0 c : Nat) : Int) := by
        unfold addLo
        rw [IntKind.wrap_u64, W64_eq]
        omega
      have HSET := Lib.hid (HROW.out.set (k := p + (n + 1)) (x := addLo u 0 c) (by omega) (addLo_lt _ _ _))
      have HGR2 := Lib.hid (grownBy_trans HGR.out (only_set wr ⟨g, p + (n + 1), none⟩ (.int .u64 (addLo u 0 c : Nat))))
      have HS := Lib.hid (show val (((os.set (p + (n + 1)) (addLo u 0 c)).drop p).take (n + 2)) + W64 ^ (n + 2) * addHi u 0 c = val ((us.drop p).take (n + 2)) + val vs by
        have hV := HV.out
        rw [show vs.take (n + 1) = vs from List.take_of_length_le (by rw [HVL.out]; omega)] at hV
        rw [drop_set_add, show n + 2 = (n + 1) + 1 by rfl, val_take_set _ _ _ (by rw [List.length_drop]; omega), val_take_step (us.drop p), hu2, Nat.pow_succ]
        have h4 := alg_add W64 hV hs1
        rwa [Nat.mul_zero, Nat.add_zero] at h4)
      have HL := Lib.hid (show (os.set (p + (n + 1)) (addLo u 0 c)).length = us.length by rw [List.length_set, HO.out])
      have HT2 := Lib.hid (show (os.set (p + (n + 1)) (addLo u 0 c)).take p = us.take p by rw [List.take_set_of_le (by omega), HT.out])
      have HD2 := Lib.hid (show (os.set (p + (n + 1)) (addLo u 0 c)).drop (p + (n + 2)) = us.drop (p + (n + 2)) by
        rw [List.drop_set_of_lt (by omega)]; exact drop_more HD.out 1)
      have HU := Lib.hid (And.intro hu hu2)
      have hiI2 : (n : Int) + 1 < (la : Int) := by omega
      clear hs1 hu hu2
      go_wp2_with fail
      go_end0
      exact ⟨_, addHi u 0 c, _, rfl, hc1, HSET.out, HL.out, HT2.out, HD2.out, HS.out, HGR2.out⟩
end Go.Proofs.YtonbhpadoplpkaaGreat
/- The package divide: trim, short, shifted, made. -/
namespace Go.Proofs.YtonbhpadoplpkaaGreat
open Go.RowKit Go.Deep
set_option maxHeartbeats 400000 in
theorem divide_trim (A : Option Addr) (c : Nat) (xs : List Nat) (w : World) {B : Nat} (h : Lim w B A xs) (hc : xs.length ≤ c) (_hl : xs.length ≤ 35184372088832) :
    Calls Tryz.prog 91 #[.slice A xs.length c] w fun e w' => e = .returned (.slice A (limbs (val xs)).length (limbs (val xs)).length) ∧ w = w' := by
  rw [← trimL_eq h.small]
  have hcI : (xs.length : Int) ≤ (c : Int) := by omega
  go_enter Tryz.func91, Tryz.ntmps91
  go_wp2
  go_loop [3] (fun v => ∃ n : Nat, n ≤ xs.length ∧ v = .int .i64 (n : Int) ∧ trimL (xs.take n) = trimL xs) (fun v => (intOf v).toNat)
  case atStart => exact ⟨xs.length, Nat.le_refl _, rfl, by simp⟩
  case round =>
    obtain ⟨n, hn, rfl, ht⟩ := hrel
    have HT := Lib.hid ht
    clear ht
    rcases n with _ | n
    · go_wp2
      go_ret
      exact ⟨by rw [← HT.out]; rfl, rfl⟩
    · obtain ⟨ad, rfl, hb, hcell⟩ := h.at_ (k := n) (by omega)
      generalize hx : xs.getD n 0 = x at *
      have HX := Lib.hid hx
      clear hx
      have hn1 : (n : Int) + 1 ≤ (xs.length : Int) := by omega
      go_wp2
      · have hx : ((x : Int) == 0) = true := by assumption
        simp only [beq_iff_eq] at hx
        refine ⟨⟨n, by omega, by go_num, ?_⟩, by simp [intOf]⟩
        rw [← HT.out, trimL_zero xs n (by omega) (by have := HX.out; omega)]
      · have hx : ((x : Int) == 0) = false := by assumption
        simp only [beq_eq_false_iff_ne] at hx
        go_ret
        have e : (trimL xs).length = n + 1 := by
          rw [← HT.out, trimL_pos xs n (by omega) (by have := HX.out; omega), List.length_take]; omega
        exact ⟨by rw [e]; rfl, rfl⟩
/-- The block of a slice. -/
def blockOf : Value → Option Nat
  | .slice (some a) _ _ => some a.block
  | .agg #[_, .slice (some a) _ _] => some a.block
  | _ => none
/-- Two values lie in two blocks. -/
def Sep (u v : Value) : Prop := ∀ a b, blockOf u = some a → blockOf v = some b → a ≠ b
theorem Sep.nil (v : Value) : Sep (.slice none 0 0) v := fun a b h _ => by cases h
theorem Sep.of_lt {A B : Addr} {l c m d : Nat} (h : A.block < B.block) : Sep (.slice (some A) l c) (.slice (some B) m d) := fun a b h1 h2 => by
  injection h1 with h1
  injection h2 with h2
  omega
theorem Sep.sub {u v u' v' : Value} (h : Sep u v) (hu : ∀ b, blockOf u' = some b → blockOf u = some b) (hv : ∀ b, blockOf v' = some b → blockOf v = some b) : Sep u' v' := fun a b h1 h2 => h a b (hu a h1) (hv b h2)
/-- A slice of limbs, not trimmed, in memory since base: this is its number. -/
def Part (w : World) (base : Nat) (v : Value) (n : Nat) : Prop := ∃ A c xs, v = .slice A xs.length c ∧ xs.length ≤ c ∧ xs.length ≤ 1099511627776 ∧ Lim w w.heap.size A xs ∧ Fresh w base A c ∧ val xs = n
theorem Part.below {w w' : World} {base : Nat} {v : Value} {n : Nat} (h : Part w base v n) (hb : Below w.heap.size w w') : Part w' base v n := by
  obtain ⟨A, c, xs, h1, h2, h3, h4, h5, h6⟩ := h
  exact ⟨A, c, xs, h1, h2, h3, (h4.below hb).more hb.size, h5.below hb, h6⟩
theorem Part.stay {w w' : World} {base : Nat} {v : Value} {n : Nat} (h : Part w base v n) (hb : Below w.heap.size w w') : Part w' base v n := h.below hb
theorem Part.row {w : World} {base g : Nat} {xs : List Nat} (h : Row w g xs) (hf : Fresh w base (some ⟨g, 0, none⟩) xs.length) (hl : xs.length ≤ 1099511627776) : Part w base (.slice (some ⟨g, 0, none⟩) xs.length xs.length) (val xs) :=
  ⟨_, _, xs, rfl, Nat.le_refl _, hl, h.lim h.lt, hf, rfl⟩
theorem Part.one (W : World) (r : Nat) (hr : r < W64) : Part (W.alloc (.cells #[.int .u64 (r : Int)] 85)) W.heap.size (.slice (some ⟨W.heap.size, 0, none⟩) 1 1) r := by
  have ho : Own (W.alloc (.cells #[.int .u64 (r : Int)] 85)) W.heap.size (.slice (some ⟨W.heap.size, 0, none⟩) 1 1) [r] :=
    ⟨Small.one hr, rfl, .inr ⟨W.heap.size, 1, _, rfl, Nat.le_refl _, heap_alloc_new W _, Nat.le_refl _, by simp only [maxLen]; omega, rfl, rfl⟩⟩
  obtain ⟨A, c, e, hc, hlim, _⟩ := ho.form
  injection e with e1 e2 e3
  subst e1
  exact ⟨_, 1, [r], rfl, by simp, by simp, hlim, .inr ⟨_, _, rfl, Nat.le_refl _, heap_alloc_new W _, by simp⟩, by simp [val]⟩
theorem Part.since {w : World} {base base' : Nat} {v : Value} {n : Nat} (h : Part w base v n) (hb : base' ≤ base) : Part w base' v n := by
  obtain ⟨A, c, xs, h1, h2, h3, h4, h5, h6⟩ := h
  exact ⟨A, c, xs, h1, h2, h3, h4, h5.since hb, h6⟩
theorem Part.nil (w : World) (base : Nat) : Part w base (.slice none 0 0) 0 := ⟨none, 0, [], rfl, by simp, by simp, Lim.nil _ _ _, .inl ⟨rfl, rfl⟩, rfl⟩
set_option maxHeartbeats 800000 in
set_option maxRecDepth 100000 in
theorem divide_short (A1 : Option Addr) (c1 : Nat) (xs : List Nat) (d : Nat) (w : World) {B : Nat} (hB : B ≤ w.heap.size) (h1 : Lim w B A1 xs) (hl : xs.length ≤ 1099511627776) (hd : d < W64) (hd0 : 0 < d) :
    Calls Tryz.prog 88 #[.slice A1 xs.length c1, .int .u64 (d : Int)] w fun e w' => ∃ u v, e = .returned (.tuple #[u, v]) ∧ Part w' w.heap.size u (val xs / d) ∧ Part w' w.heap.size v (val xs % d) ∧ Sep u v ∧ Below w.heap.size w w' := by
  have hmk := make_limbs xs.length (by omega)
  go_enter Tryz.func88, Tryz.ntmps88
  go_wp2_with fail
  go_loopw [7, 8] (fun t7 t8 wr => ∃ (k r : Nat) (os : List Nat), k ≤ xs.length ∧ r < d ∧ os.length = xs.length ∧ t7 = .int .u64 (r : Int) ∧ t8 = .int .i64 ((k : Int) - 1) ∧ Row wr w.heap.size os ∧ Fresh wr w.heap.size (some ⟨w.heap.size, 0, none⟩) xs.length ∧ Below w.heap.size w wr ∧ val (xs.drop k) = d * val (os.drop k) + r) (fun _ t8 _ => (intOf t8 + 1).toNat)
  case atStart =>
    exact ⟨xs.length, 0, List.replicate xs.length 0, by omega, hd0, by simp, rfl, rfl, Row.made _ _, Fresh.made _ _, (Below.refl _ _).alloc (Nat.le_refl _) _, by simp⟩
  case round =>
    obtain ⟨k, r, os, hk, hr, ho, rfl, rfl, hrow, hfr, hbel, hval⟩ := hrel
    have HV := Lib.hid hval
    have HO := Lib.hid ho
    clear hval ho
    rcases k with _ | k
    · have hq : val os = val xs / d ∧ r = val xs % d := by
        have h := HV.out
        rw [List.drop_zero, List.drop_zero] at h
        rw [h, Nat.mul_add_div hd0, Nat.mul_add_mod, Nat.div_eq_of_lt hr, Nat.mod_eq_of_lt hr]
        exact ⟨rfl, rfl⟩
      have HQ := Lib.hid hq
      clear hq
      go_wp2_with fail
      go_ret2
      have hr2 : r < W64 := by omega
      have hb1 : Below wr.heap.size wr (wr.alloc (.cells #[.int .u64 (r : Int)] 85)) := (Below.refl _ _).alloc (Nat.le_refl _) _
      refine ⟨_, _, rfl, ?_, ?_, Sep.of_lt hrow.lt, hbel.trans (hb1.mono hbel.size)⟩
      · have h := (Part.row hrow (by rw [HO.out]; exact hfr) (by rw [HO.out]; omega)).below hb1
        rw [HO.out, HQ.out.1] at h
        exact h
      · rw [← HQ.out.2]
        exact (Part.one wr r hr2).since hbel.size
    · obtain ⟨ad, rfl, hb, hcell⟩ := (h1.below (hbel.mono hB)).at_ (k := k) (by omega)
      obtain ⟨x, hx⟩ : ∃ x, xs.getD k 0 = x := ⟨_, rfl⟩
      have hxs : x < W64 := hx ▸ h1.small.getD k
      rw [hx] at hcell
      have hdl := digit_lt hr hxs
      have hml : (r * W64 + x) % d < d := Nat.mod_lt _ hd0
      have h2 := Nat.div_add_mod (r * W64 + x) d
      have hdiv := bits_div64 r x d hxs hd hr
      generalize (r * W64 + x) / d = q at *
      generalize (r * W64 + x) % d = t at *
      have hstep : val (xs.drop k) = d * val ((os.set k q).drop k) + t := by
        have hV := HV.out
        rw [val_drop_step xs k (by omega), hx, hV, val_drop_set os k _ (by rw [HO.out]; omega)]
        generalize val (os.drop (k + 1)) = v at *
        grind
      have HS := Lib.hid hstep
      have HL := Lib.hid (show (os.set k q).length = xs.length by rw [List.length_set, HO.out])
      have hcg := hrow.cell (k := k) (by rw [HO.out]; omega)
      have hfg := hrow.free k
      have HK := Lib.hid (show k < os.length by rw [HO.out]; omega)
      have HDIV := Lib.hid hdiv
      have e1 : ((k + 1 : Nat) : Int) - 1 = (k : Int) := by omega
      rw [e1]
      clear e1 hstep hx h2 hdiv
      go_wp2_with fail
      refine (HDIV.out _).mono ?_
      rintro e w1 ⟨rfl, n, rfl⟩
      go_wp2_with fail
      exact ⟨⟨k, _, _, by omega, hml, HL.out, rfl, rfl, (hrow.drewN n).set HK.out hdl, (hfr.below (below_drewN (Below.refl _ _) n)).set _ _ _, (below_drewN hbel n).setCell (p := ⟨w.heap.size, k, none⟩) (Nat.le_refl _) _, HS.out⟩, by simp [intOf]⟩
theorem shift_state {W T P d t x low a b : Nat} (h : d + W * t = x * T + low) (hV : a + P * low = b * T) : a + P * d + P * W * t = (b + P * x) * T := by
  have h2 : P * (d + W * t) = P * (x * T + low) := by rw [h]
  grind
theorem val_take_two (os : List Nat) (i d t : Nat) (h : i + 1 < os.length) : val (((os.set i d).set (i + 1) t).take (i + 1 + 1)) = val (os.take i) + W64 ^ i * d + W64 ^ i * W64 * t := by
  rw [val_take_set _ _ _ (by rw [List.length_set]; omega), val_take_set _ _ _ (by omega), Nat.pow_succ]
set_option maxHeartbeats 1600000 in
set_option maxRecDepth 100000 in
theorem divide_shifted (A1 : Option Addr) (c1 : Nat) (xs : List Nat) (s : Nat) (w : World) {B : Nat} (hB : B ≤ w.heap.size) (h1 : Lim w B A1 xs) (hl : xs.length ≤ 1099511627776) (hs : s < 64) :
    Calls Tryz.prog 130 #[.slice A1 xs.length c1, .int .i64 (s : Int)] w fun e w' => ∃ g os, e = .returned (.slice (some ⟨g, 0, none⟩) (xs.length + 1) (xs.length + 1)) ∧ (w.heap.size ≤ g ∧ g < w'.heap.size) ∧ os.length = xs.length + 1 ∧ Row w' g os ∧ Fresh w' w.heap.size (some ⟨g, 0, none⟩) (xs.length + 1) ∧ val os = val xs * 2 ^ s ∧ Below w.heap.size w w' := by
  have hmk := make_limbs (xs.length + 1) (by omega)
  rw [Int.natCast_add, Int.natCast_one] at hmk
  have hsI : (s : Int) < 64 := by omega
  have hsJ : (63 : Int) - (s : Int) = ((63 - s : Nat) : Int) := by omega
  have hlI : (xs.length : Int) ≤ 1099511627776 := by omega
  have HL := Lib.hid hl
  have HS0 := Lib.hid hs
  clear hl
  go_enter Tryz.func130, Tryz.ntmps130
  go_wp2_with fail
  go_loopw [14] (fun t14 wr => ∃ (i : Nat) (os : List Nat), i ≤ xs.length ∧ t14 = .int .i64 (i : Int) ∧ Hid (os.length = xs.length + 1) ∧ Hid (Row wr w.heap.size os) ∧ Hid (Fresh wr w.heap.size (some ⟨w.heap.size, 0, none⟩) (xs.length + 1)) ∧ Hid (Below w.heap.size w wr) ∧ Hid (os.getD i 0 < 2 ^ s) ∧ Hid (val (os.take (i + 1)) = val (xs.take i) * 2 ^ s)) (fun t14 _ => xs.length - (intOf t14).toNat)
  case atStart =>
    exact ⟨0, List.replicate (xs.length + 1) 0, by omega, rfl, Lib.hid (by simp), Lib.hid (Row.made _ _), Lib.hid (Fresh.made _ _), Lib.hid ((Below.refl _ _).alloc (Nat.le_refl _) _), Lib.hid (by have := Nat.pow_pos (n := s) (show 0 < 2 by omega); simpa using this), Lib.hid (by rw [List.take_zero, val_nil, Nat.zero_mul]; simp [val])⟩
  case round =>
    obtain ⟨i, os, hi, rfl, HO, HROW, HF, HB, HLOW, HV⟩ := hrel
    by_cases hlt : i < xs.length
    · obtain ⟨ad, rfl, hb, hcell⟩ := (h1.below (HB.out.mono hB)).at_ (k := i) hlt
      obtain ⟨x, hx⟩ : ∃ x, xs.getD i 0 = x := ⟨_, rfl⟩
      have hxs : x < W64 := hx ▸ h1.small.getD i
      rw [hx] at hcell
      obtain ⟨low, hlow⟩ : ∃ l, os.getD i 0 = l := ⟨_, rfl⟩
      have hlw := HLOW.out
      rw [hlow] at hlw
      have hpow : 2 ^ s ≤ W64 := by rw [W64_two]; exact Nat.pow_le_pow_right (by omega) (by omega)
      obtain ⟨hd1, hd2, hd3, hd4⟩ := shl_step hxs hs hlw
      have e1 : bits .or .u64 (low : Int) (IntKind.u64.wrap ((x : Int) * 2 ^ s)) = ((x * 2 ^ s % W64 + low : Nat) : Int) := by
        have e : (x : Int) * 2 ^ s = ((x * 2 ^ s : Nat) : Int) := by simp
        rw [e, wrap_u64_nat, u64_or_nat _ _ (by rw [← W64_eq]; omega) (by rw [← W64_eq]; exact Nat.mod_lt _ W64_pos), Nat.or_comm, hd4]
      have e2 : (x : Int) / 2 / 2 ^ (63 - s) = ((x / 2 ^ (64 - s) : Nat) : Int) := by
        rw [show 64 - s = 63 - s + 1 by omega, Nat.pow_succ, Nat.mul_comm, ← Nat.div_div_eq_div_mul]; simp
      have hcl := HROW.out.cell (k := i) (by rw [HO.out]; omega)
      have hfl := HROW.out.free i
      have hfl2 := HROW.out.free (i + 1)
      rw [hlow] at hcl
      have HST := Lib.hid (shift_state (P := W64 ^ i) (b := val (xs.take i)) (a := val (os.take i)) hd3 (by
        have h := HV.out
        rw [val_take_step os, hlow] at h
        exact h))
      have HD := Lib.hid (And.intro hd1 hd2)
      have HX := Lib.hid (And.intro hx hlow)
      obtain ⟨d, hd⟩ : ∃ d, x * 2 ^ s % W64 + low = d := ⟨_, rfl⟩
      obtain ⟨t, ht⟩ : ∃ t, x / 2 ^ (64 - s) = t := ⟨_, rfl⟩
      rw [hd] at e1 HST HD
      rw [ht] at e2 HST HD
      have hiI : (i : Int) < (xs.length : Int) := by omega
      have r1 := later_cell hcl
      clear hd1 hd2 hd3 hd4 hx hlow hlw hpow hd ht hlt hi
      go_upto_region 5 with (fail)
      go_region_with (fail)
      obtain ⟨W5, hW5⟩ : ∃ W, (wr.setCell ⟨w.heap.size, i, none⟩ (.int .u64 (d : Int))).drew = W := ⟨_, rfl⟩
      have HROW5 := Lib.hid (show Row W5 w.heap.size (os.set i d) by rw [← hW5]; exact ((HROW.out.set (by rw [HO.out]; omega) HD.out.1).drewN 1))
      have HF5 := Lib.hid (show Fresh W5 w.heap.size (some ⟨w.heap.size, 0, none⟩) (xs.length + 1) by rw [← hW5]; exact (HF.out.set w.heap.size i (.int .u64 (d : Int))).below (below_drewN (Below.refl _ _) 1))
      have HB5 := Lib.hid (show Below w.heap.size w W5 by rw [← hW5]; exact below_drewN (HB.out.setCell (p := ⟨w.heap.size, i, none⟩) (Nat.le_refl _) _) 1)
      rw [hW5]
      clear hW5 r1 hfl hfl2 hcl hcell
      have hf2 := HROW5.out.free (i + 1)
      have HTW := Lib.hid (show t < W64 from Nat.lt_of_lt_of_le HD.out.2 (by rw [W64_two]; exact Nat.pow_le_pow_right (by omega) (by have := HS0.out; omega)))
      have hc2 := HROW5.out.cell (k := i + 1) (by rw [List.length_set, HO.out]; omega)
      have HROW6 := Lib.hid (HROW5.out.set (k := i + 1) (x := t) (by rw [List.length_set, HO.out]; omega) HTW.out)
      have HF6 := Lib.hid (HF5.out.set w.heap.size (i + 1) (.int .u64 (t : Int)))
      have HB6 := Lib.hid (HB5.out.setCell (p := ⟨w.heap.size, i + 1, none⟩) (Nat.le_refl _) (.int .u64 (t : Int)))
      have HL6 := Lib.hid (show ((os.set i d).set (i + 1) t).length = xs.length + 1 by rw [List.length_set, List.length_set, HO.out])
      go_wp2_with fail
      refine ⟨⟨i + 1, _, by omega, by go_num, HL6, HROW6, HF6, HB6, Lib.hid ?_, Lib.hid ?_⟩, by simp [intOf]; omega⟩
      · rw [List.getD_eq_getElem?_getD, List.getElem?_set_self (by rw [List.length_set, HO.out]; omega)]; exact HD.out.2
      · rw [val_take_two _ _ _ _ (by rw [HO.out]; omega), val_take_step xs, HX.out.1]
        exact HST.out
    · obtain rfl : i = xs.length := by omega
      have HFIN := Lib.hid (show val os = val xs * 2 ^ s by
        have h := HV.out
        rwa [List.take_of_length_le (by rw [HO.out]; omega), List.take_of_length_le (Nat.le_refl _)] at h)
      go_wp2_with fail
      go_ret
      exact ⟨w.heap.size, os, rfl, ⟨Nat.le_refl _, HROW.out.lt⟩, HO.out, HROW.out, HF.out, HFIN.out, HB.out⟩
theorem part_raw {neg : Bool} {n : Nat} (h : n ≠ 0) : rawOf (signed neg n) = (neg, limbs n) := by
  unfold rawOf
  rw [signed_natAbs]
  cases neg <;> simp [signed] <;> omega
theorem part_zero (neg : Bool) : rawOf (signed neg 0) = (false, []) := by
  unfold rawOf
  rw [signed_natAbs, limbs_zero]
  cases neg <;> simp [signed]
set_option maxRecDepth 100000 in
theorem divide_made (neg : Bool) (v : Value) (n base : Nat) (w : World) (h : Part w base v n) :
    Calls Tryz.prog 51 #[.bool neg, v] w fun e w' => ∃ u, e = .returned u ∧ RawAt w' base u (rawOf (signed neg n)) ∧ (∀ b, blockOf u = some b → blockOf v = some b) ∧ Below w.heap.size w w' := by
  obtain ⟨A, c, xs, rfl, hc, hl, hlim, hf, hv⟩ := h
  have HV := Lib.hid hv
  have HL := Lib.hid hl
  have HLIM := Lib.hid hlim
  have HF := Lib.hid hf
  have HC := Lib.hid hc
  clear hv hl hlim hf hc
  go_enter Tryz.func51, Tryz.ntmps51
  go_wp2_with fail
  obtain ⟨W0, g, hW, hg, bx, hbw, -⟩ := box_new w (.bool false) (.slice none 0 0)
  have hb0 : Below w.heap.size w W0 := by rw [hg]; exact hbw
  have HB0 := Lib.hid hb0
  have HL0 := Lib.hid ((HLIM.out.below hb0).more hb0.size)
  have HF0 := Lib.hid (HF.out.below hb0)
  rw [hW, hg]
  have HG := Lib.hid (show w.heap.size ≤ g by omega)
  clear hW hg hbw hb0
  refine (divide_trim _ _ _ _ HL0.out HC.out (by have := HL.out; omega)).mono ?_
  rintro e w1 ⟨rfl, rfl⟩
  have hlc := lc_val HLIM.out.small
  have ht := HL0.out.trim
  rw [HV.out] at ht hlc ⊢
  obtain ⟨m, hm⟩ : ∃ m, (limbs n).length = m := ⟨_, rfl⟩
  have HM := Lib.hid hm
  rw [hm]
  have hmc : m ≤ c := by have := HC.out; have h2 : (limbs n).length ≤ xs.length := hlc; omega
  have HT := Lib.hid ht
  have HMC := Lib.hid hmc
  have a0 := bx.cell0
  have a1 := bx.cell1
  have fr := bx.free
  clear ht hlc hm hmc
  by_cases h0 : n = 0
  · obtain rfl : m = 0 := by rw [← HM.out, h0, limbs_zero]; rfl
    go_wp2_with fail
    refine bodyPost_ret (results_cell_row rfl _ _ g 24 #[.bool false, (.slice none 0 0)] (0, 0) _ (by rfl) bx.store Tryz.underlying24 rfl (by kernel_rfl)) rfl ?_
    subst h0
    rw [part_zero]
    exact ⟨_, rfl, RawAt.zero _ _, (fun b h => by cases h), store2_below HB0.out HG.out⟩
  · have h1 : ((m : Int) == 0) = false := by
      rw [beq_eq_false_iff_ne]
      intro h
      have h2 : (limbs n).length = 0 := by rw [HM.out]; omega
      exact h0 (limbs_eq_nil.1 (List.eq_nil_of_length_eq_zero h2))
    have HN := Lib.hid h0
    clear h0
    go_wp2_with fail
    refine bodyPost_ret (results_cell_row rfl _ _ g 24 #[.bool neg, (.slice A m m)] (0, 0) _ (by rfl) bx.store Tryz.underlying24 rfl (by kernel_rfl)) rfl ?_
    rw [part_raw HN.out]
    have hraw : RawAt W0 base (.agg #[.bool neg, .slice A m m]) (neg, limbs n) := ⟨A, m, m, rfl, HM.out.symm, Nat.le_refl _, HT.out, HF0.out.cut HMC.out⟩
    exact ⟨_, rfl, hraw.store2 bx.nums _ _, (fun b h => by cases A <;> exact h), store2_below HB0.out HG.out⟩
end Go.Proofs.YtonbhpadoplpkaaGreat
/- Long division, plain: the loop that gives back. -/
namespace Go.Proofs.YtonbhpadoplpkaaGreat
theorem top_zero {win : List Nat} {n : Nat} (hl : win.length = n + 1) (h : val win < W64 ^ n) : win.getD n 0 = 0 := by
  have h1 := val_split win n (by omega)
  have h2 := val_drop_step win n (by omega)
  rw [List.drop_of_length_le (i := n + 1) (by omega), val_nil, Nat.mul_zero, Nat.add_zero] at h2
  rw [h2] at h1
  rcases Nat.eq_zero_or_pos (win.getD n 0) with h0 | h0
  · exact h0
  · have := Nat.mul_le_mul_left (W64 ^ n) (show 1 ≤ win.getD n 0 from h0)
    omega
theorem top_pos {win : List Nat} {n : Nat} (hs : Small win) (hl : win.length = n + 1) (h : W64 ^ n ≤ val win) : win.getD n 0 ≠ 0 := by
  intro h0
  have h1 := val_split win n (by omega)
  have h2 := val_drop_step win n (by omega)
  rw [List.drop_of_length_le (i := n + 1) (by omega), val_nil, Nat.mul_zero, Nat.add_zero, h0] at h2
  rw [h2, Nat.mul_zero, Nat.add_zero] at h1
  have h3 := val_lt (hs.take n)
  rw [List.length_take, Nat.min_eq_left (by omega)] at h3
  omega
theorem getD_win (os : List Nat) (p n k : Nat) (h : k < n) : ((os.drop p).take n).getD k 0 = os.getD (p + k) 0 := by
  simp only [List.getD_eq_getElem?_getD, List.getElem?_take, if_pos h, List.getElem?_drop]
theorem win_lt {os : List Nat} (hs : Small os) {p n : Nat} (hp : p + n ≤ os.length) : val ((os.drop p).take n) < W64 ^ n := by
  have h := val_lt ((hs.drop p).take n)
  rwa [List.length_take, List.length_drop, Nat.min_eq_left (by omega)] at h
/-- The loop that gives the divisor back, while the window is below 0. -/
structure Giving (us os : List Nat) (p n V q : Nat) : Prop where
  len : os.length = us.length
  tk : os.take p = us.take p
  dr : os.drop (p + (n + 3)) = us.drop (p + (n + 3))
  sum : val ((os.drop p).take (n + 3)) + q * V = val ((us.drop p).take (n + 3)) + W64 ^ (n + 3)
  close : q * V < val ((us.drop p).take (n + 3)) + W64 ^ (n + 2)
theorem Giving.pos {us os : List Nat} {p n V q : Nat} (h : Giving us os p n V q) (hs : Small os) (hp : p + (n + 3) ≤ us.length) : 1 ≤ q := by
  have h1 := win_lt hs (p := p) (n := n + 3) (by rw [h.len]; exact hp)
  have h2 := h.sum
  rcases Nat.eq_zero_or_pos q with h0 | h0
  · rw [h0, Nat.zero_mul] at h2; omega
  · exact h0
/-- What is told when the window is right. -/
structure Given (us os : List Nat) (p n V q : Nat) : Prop where
  len : os.length = us.length
  tk : os.take p = us.take p
  dr : os.drop (p + (n + 3)) = us.drop (p + (n + 3))
  rest : val ((os.drop p).take (n + 3)) = val ((us.drop p).take (n + 3)) % V
  quo : q = val ((us.drop p).take (n + 3)) / V
theorem div_of_sum {a q V m : Nat} (h : a + q * V = m) (ha : a < V) : a = m % V ∧ q = m / V := by
  subst h
  constructor
  · rw [Nat.add_mul_mod_self_right, Nat.mod_eq_of_lt ha]
  · rw [Nat.add_mul_div_right _ _ (by omega), Nat.div_eq_of_lt ha, Nat.zero_add]
theorem Giving.step {us os os' : List Nat} {p n V q c : Nat} (h : Giving us os p n V q) (hs : Small os) (hs' : Small os') (hp : p + (n + 3) ≤ us.length) (hVl : V < W64 ^ (n + 2))
    (hlen : os'.length = os.length) (htk : os'.take p = os.take p) (hdr : os'.drop (p + (n + 3)) = os.drop (p + (n + 3)))
    (hv : val ((os'.drop p).take (n + 3)) + W64 ^ (n + 3) * c = val ((os.drop p).take (n + 3)) + V) (hc : c ≤ 1) :
    (os'.getD (p + (n + 2)) 0 ≠ 0 ∧ Giving us os' p n V (q - 1)) ∨ (os'.getD (p + (n + 2)) 0 = 0 ∧ Given us os' p n V (q - 1)) := by
  have hq := h.pos hs hp
  have h1 := win_lt hs (p := p) (n := n + 3) (by rw [h.len]; exact hp)
  have hl' : os'.length = us.length := hlen.trans h.len
  have hwl : ((os'.drop p).take (n + 3)).length = n + 2 + 1 := by rw [List.length_take, List.length_drop]; omega
  have hg := getD_win os' p (n + 3) (n + 2) (by omega)
  have hsw : Small ((os'.drop p).take (n + 3)) := (hs'.drop p).take (n + 3)
  have hsum := h.sum
  have hcl := h.close
  have hW3 : 2 * W64 ^ (n + 2) ≤ W64 ^ (n + 3) := by
    rw [Nat.pow_succ W64 (n + 2), Nat.mul_comm 2]
    exact Nat.mul_le_mul_left _ (by rw [W64_eq]; omega)
  obtain ⟨r, rfl⟩ : ∃ r, q = r + 1 := ⟨q - 1, by omega⟩
  rw [Nat.add_sub_cancel]
  rw [Nat.add_mul, Nat.one_mul] at hsum hcl
  have hc2 : c = 0 ∨ c = 1 := by omega
  rcases hc2 with rfl | rfl
  · rw [Nat.mul_zero, Nat.add_zero] at hv
    refine .inl ⟨?_, ⟨hl', htk.trans h.tk, hdr.trans h.dr, by omega, by omega⟩⟩
    rw [← hg]
    exact top_pos hsw hwl (by omega)
  · rw [Nat.mul_one] at hv
    have h5 := div_of_sum (a := val ((os'.drop p).take (n + 3))) (q := r) (V := V) (m := val ((us.drop p).take (n + 3))) (by omega) (by omega)
    refine .inr ⟨?_, ⟨hl', htk.trans h.tk, hdr.trans h.dr, h5.1, h5.2⟩⟩
    rw [← hg]
    exact top_zero hwl (by omega)
/-- What was taken away at first. -/
theorem taken {us os : List Nat} {p n V q b : Nat} (hlen : os.length = us.length) (htk : os.take p = us.take p) (hdr : os.drop (p + (n + 3)) = us.drop (p + (n + 3)))
    (hv : val ((os.drop p).take (n + 3)) + q * V = val ((us.drop p).take (n + 3)) + W64 ^ (n + 3) * b) (hb : b ≤ 1) (hQ : val ((us.drop p).take (n + 3)) / V ≤ q) (hcl : q * V < val ((us.drop p).take (n + 3)) + W64 ^ (n + 2)) (hV : 0 < V) :
    (b = 0 ∧ Given us os p n V q) ∨ (b = 1 ∧ Giving us os p n V q) := by
  have hb2 : b = 0 ∨ b = 1 := by omega
  rcases hb2 with rfl | rfl
  · rw [Nat.mul_zero, Nat.add_zero] at hv
    have h1 := Nat.lt_div_mul_add (a := val ((us.drop p).take (n + 3))) hV
    have h2 := Nat.mul_le_mul_right V hQ
    have h5 := div_of_sum (a := val ((os.drop p).take (n + 3))) (q := q) (V := V) (m := val ((us.drop p).take (n + 3))) (by omega) (by omega)
    exact .inl ⟨rfl, ⟨hlen, htk, hdr, h5.1, h5.2⟩⟩
  · rw [Nat.mul_one] at hv
    exact .inr ⟨rfl, ⟨hlen, htk, hdr, hv, hcl⟩⟩
theorem long_start {xs ys : List Nat} (hx : Small xs) (hy : Small ys) {lb D : Nat} (hyl : ys.length = lb + 2) (hxl : xs.length = D + (lb + 2)) (ht : ys.getD (lb + 1) 0 ≠ 0) :
    64 - bitLen (ys.getD (lb + 1) 0) < 64 ∧ val ys * 2 ^ (64 - bitLen (ys.getD (lb + 1) 0)) < W64 ^ (lb + 2) ∧ W64 ^ (lb + 1) ≤ val ys * 2 ^ (64 - bitLen (ys.getD (lb + 1) 0)) ∧ 0 < val ys ∧
    val xs * 2 ^ (64 - bitLen (ys.getD (lb + 1) 0)) < W64 ^ (D + 1) * (val ys * 2 ^ (64 - bitLen (ys.getD (lb + 1) 0))) := by
  have hn : Norm ys := .inr (by rw [hyl]; exact ht)
  have he := eq_limbs hy hn
  have hlc : lc (val ys) = lb + 2 := by unfold lc; rw [← he]; exact hyl
  have hge : W64 ^ (lb + 1) ≤ val ys := by
    rcases Nat.lt_or_ge (val ys) (W64 ^ (lb + 1)) with h | h
    · have := lc_le.2 h; omega
    · exact h
  have hpos : 0 < val ys := Nat.lt_of_lt_of_le (Nat.pow_pos W64_pos) hge
  obtain ⟨s, t, h1, h2, h3, h4, h5, _, _⟩ := moved_lc (m := val ys) (n := val ys) (by omega) (Nat.le_refl _)
  rw [hlc, ← he] at h1
  have h1' : ys.getD (lb + 1) 0 = t := h1
  rw [h1', h3]
  rw [hlc] at h5
  have hp : 1 ≤ 2 ^ s := Nat.pow_pos (by omega)
  refine ⟨by omega, lc_le.1 (by omega), Nat.le_trans hge (Nat.le_mul_of_pos_right _ hp), hpos, ?_⟩
  rw [← Nat.mul_assoc]
  refine Nat.mul_lt_mul_of_pos_right ?_ hp
  have h6 := val_lt hx
  rw [hxl, show D + (lb + 2) = (D + 1) + (lb + 1) by omega, Nat.pow_add] at h6
  exact Nat.lt_of_lt_of_le h6 (Nat.mul_le_mul_left _ hge)
end Go.Proofs.YtonbhpadoplpkaaGreat
/- The package divide: long. -/
namespace Go.Proofs.YtonbhpadoplpkaaGreat
open Go.RowKit Go.Deep
theorem Row.stay {w w' : World} {g : Nat} {os : List Nat} (h : Row w g os) (hb : Below w.heap.size w w') : Row w' g os := h.call hb
theorem wraps_eq {a : Int} {m : Nat} (h : a = (m : Int)) (hm : m < 9223372036854775808) : IntKind.i64.wrap a = (m : Int) ∧ wrap64 a = (m : Int) := by
  subst h
  have h : IntKind.i64.wrap (m : Int) = (m : Int) := by rw [IntKind.wrap_i64]; omega
  exact ⟨h, by unfold wrap64; omega⟩
theorem long_index {j n D la lb : Nat} (hn : lb + 2 = n) (hla : la = D + (lb + 2)) (hj : j + 1 ≤ D + 1) (hl : la ≤ 549755813888) :
    ∃ m2 m1 m0 n1 : Nat, j + (lb + 2) = m2 ∧ j + (lb + 1) = m1 ∧ j + lb = m0 ∧ lb + 1 = n1 ∧ (j : Int) < (D : Int) + 1 ∧ (m2 : Int) < (la : Int) + 1 ∧ (m1 : Int) < (la : Int) + 1 ∧ (m0 : Int) < (la : Int) + 1 ∧ (n1 : Int) < (n : Int) ∧ (lb : Int) < (n : Int) ∧ (j : Int) ≤ 549755813888 ∧
      (IntKind.i64.wrap ((j : Int) + (n : Int)) = (m2 : Int) ∧ wrap64 ((j : Int) + (n : Int)) = (m2 : Int)) ∧
      (IntKind.i64.wrap ((m2 : Int) - 1) = (m1 : Int) ∧ wrap64 ((m2 : Int) - 1) = (m1 : Int)) ∧
      (IntKind.i64.wrap ((m2 : Int) - 2) = (m0 : Int) ∧ wrap64 ((m2 : Int) - 2) = (m0 : Int)) ∧
      (IntKind.i64.wrap ((n : Int) - 1) = (n1 : Int) ∧ wrap64 ((n : Int) - 1) = (n1 : Int)) ∧
      (IntKind.i64.wrap ((n : Int) - 2) = (lb : Int) ∧ wrap64 ((n : Int) - 2) = (lb : Int)) :=
  ⟨_, _, _, _, rfl, rfl, rfl, rfl, by omega, by omega, by omega, by omega, by omega, by omega, by omega, wraps_eq (by omega) (by omega), wraps_eq (by omega) (by omega), wraps_eq (by omega) (by omega), wraps_eq (by omega) (by omega), wraps_eq (by omega) (by omega)⟩
theorem Ext.of_nix {w w' : World} (h : Below w.heap.size w w') : Ext Nix w w' := ⟨h.os, h.tape, h.output, h.size, fun i hi _ => h.block i hi, fun _ h => h.elim⟩
/-- The numbers of the long division. -/
structure DSum (V M j : Nat) (us os : List Nat) : Prop where
  less : val (us.drop j) < V
  sum : M = val us + val (os.drop j) * W64 ^ j * V
theorem long_taken {us us1 vs os : List Nat} {j lb V q b M : Nat} (hs : Small us) (hvs : Small vs) (hvl : vs.length = lb + 2) (hV : val vs = V) (hVp : 0 < V) (hVl : V < W64 ^ (lb + 2)) (hul : j + (lb + 3) ≤ us.length) (S : DSum V M (j + 1) us os)
    {u2 u1 u0 v1 v0 : Nat} (hu : us.getD (j + (lb + 2)) 0 = u2 ∧ us.getD (j + (lb + 1)) 0 = u1 ∧ us.getD (j + lb) 0 = u0 ∧ vs.getD (lb + 1) 0 = v1 ∧ vs.getD lb 0 = v0) (G : Guess u2 u1 u0 v1 v0 q)
    (hlen : us1.length = us.length) (htk : us1.take j = us.take j) (hdr : us1.drop (j + (lb + 3)) = us.drop (j + (lb + 3))) (hv : val ((us1.drop j).take (lb + 3)) + q * val vs = val ((us.drop j).take (lb + 3)) + W64 ^ (lb + 3) * b) (hb : b ≤ 1) :
    (b = 0 ∧ Given us us1 j lb V q) ∨ (b = 1 ∧ Giving us us1 j lb V q) := by
  obtain ⟨h1, _⟩ := over_win (lb := lb + 2) hs hul hVl S.less
  obtain ⟨e2, e1, e0, e4, e3⟩ := hu
  have hwl : ((us.drop j).take (lb + 3)).length = lb + 3 := by rw [List.length_take, List.length_drop]; omega
  have hg := guess_window ((hs.drop j).take (lb + 3)) hvs hvl hwl (g := q) (by
    rw [getD_win us j (lb + 3) (lb + 2) (by omega), getD_win us j (lb + 3) (lb + 1) (by omega), getD_win us j (lb + 3) lb (by omega), e2, e1, e0, e4, e3]; exact G) (by rw [hV]; exact h1)
  rw [hV] at hg hv
  exact taken hlen htk hdr hv hb hg.1 hg.2 hVp
theorem long_given {us us1 os : List Nat} {j lb V q M : Nat} (hs : Small us) (hVp : 0 < V) (hVl : V < W64 ^ (lb + 2)) (hul : j + (lb + 3) ≤ us.length) (hj : j < os.length) (S : DSum V M (j + 1) us os) (G : Given us us1 j lb V q) : DSum V M j us1 (os.set j q) := by
  obtain ⟨h1, h2⟩ := over_step (lb := lb + 2) hs G.len hul hVp hVl S.less S.sum G.quo G.tk G.dr G.rest hj
  exact ⟨h1, h2⟩
theorem top_none {us : List Nat} {k : Nat} (hk : k < us.length) (h : val us < W64 ^ k) : val (us.take k) = val us ∧ us.getD k 0 = 0 := by
  have h1 := val_split us k (by omega)
  have h2 := val_drop_step us k hk
  have h0 : val (us.drop k) = 0 := by
    rcases Nat.eq_zero_or_pos (val (us.drop k)) with h3 | h3
    · exact h3
    · have := Nat.mul_le_mul_left (W64 ^ k) h3
      omega
  rw [h0] at h1 h2
  constructor
  · omega
  · omega
theorem rest_limb {k x y s : Nat} (hx : x < W64) (hs : s < 64) (hk : k ≤ 549755813888) :
    ∃ k1 t63 xd y2 yd d : Nat, k + 1 = k1 ∧ IntKind.i64.wrap ((k : Int) + 1) = (k1 : Int) ∧ IntKind.i64.wrap ((63 : Int) - (s : Int)) = (t63 : Int) ∧ (x : Int) / 2 ^ s = (xd : Int) ∧ IntKind.u64.wrap ((y : Int) * 2) = (y2 : Int) ∧ IntKind.u64.wrap ((y2 : Int) * 2 ^ min t63 64) = (yd : Int) ∧
      bits .or .u64 (xd : Int) (yd : Int) = (d : Int) ∧ d < W64 ∧ d * 2 ^ s + x % 2 ^ s = x + W64 * (y % 2 ^ s) := by
  obtain ⟨h1, h2, h3⟩ := shr_step (y := y) hx hs
  have e1 : IntKind.u64.wrap ((y : Int) * 2) = ((y * 2 % W64 : Nat) : Int) := by
    have e : (y : Int) * 2 = ((y * 2 : Nat) : Int) := by simp
    rw [e, wrap_u64_nat]
  have e2 : IntKind.u64.wrap (((y * 2 % W64 : Nat) : Int) * 2 ^ (63 - s)) = ((y * 2 ^ (64 - s) % W64 : Nat) : Int) := by
    have e : ((y * 2 % W64 : Nat) : Int) * 2 ^ (63 - s) = ((y * 2 % W64 * 2 ^ (63 - s) : Nat) : Int) := by simp
    rw [e, wrap_u64_nat]
    congr 1
    rw [Nat.mod_mul_mod, Nat.mul_assoc, show 64 - s = (63 - s) + 1 by omega, Nat.pow_succ, Nat.mul_comm 2]
  have e3 : IntKind.i64.wrap ((63 : Int) - (s : Int)) = ((63 - s : Nat) : Int) := (wraps_eq (m := 63 - s) (by omega) (by omega)).1
  exact ⟨_, _, x / 2 ^ s, _, y * 2 ^ (64 - s) % W64, _, rfl, (wraps_eq (m := k + 1) (by omega) (by omega)).1, e3, by rw [Int.natCast_ediv, Int.natCast_pow]; rfl, e1, by rw [Nat.min_eq_left (by omega)]; exact e2, by
    rw [u64_or_nat _ _ (by rw [← W64_eq]; exact Nat.lt_of_le_of_lt (Nat.div_le_self _ _) hx) (by rw [← W64_eq]; exact Nat.mod_lt _ W64_pos), h3], h1, h2⟩
theorem rest_join {a b c P W R d x xm ym : Nat} (h : a * R + c = b + P * xm) (hd : d * R + xm = x + W * ym) : (a + P * d) * R + c = b + P * x + P * W * ym := by
  have : P * (d * R + xm) = P * (x + W * ym) := by rw [hd]
  grind
theorem Row.grew {w w' : World} {g gr : Nat} {os : List Nat} (h : Row w g os) (hg : w.grownBy w' (some gr)) (hne : g ≠ gr) : Row w' g os := h.of_block (hg.block g h.lt (by intro e; injection e; omega))
theorem getD_set_at {os : List Nat} {j g : Nat} (h : j < os.length) : (os.set j g).getD j 0 = g := by rw [List.getD_eq_getElem?_getD, List.getElem?_set_self h]; rfl
theorem Fresh.grown {w w' : World} {base g c : Nat} {A : Option Addr} (h : Fresh w base A c) (hg : w.grownBy w' (some g)) (hne : ∀ ad, A = some ad → ad.block ≠ g) : Fresh w' base A c := by
  rcases h with h | ⟨k, cs, h1, h2, h3, h4⟩
  · exact .inl h
  · exact .inr ⟨k, cs, h1, h2, by rw [hg.block k (Array.getElem?_eq_some_iff.1 h3).1 (by intro e; injection e with e; exact hne _ h1 e)]; exact h3, h4⟩
theorem Row.lim' {w : World} {g : Nat} {os : List Nat} (h : Row w g os) : Lim w w.heap.size (some ⟨g, 0, none⟩) os := h.lim h.lt
/-- The memory of the long division. -/
structure DMem (w wr : World) (gu gv gq la D n : Nat) (vs us os : List Nat) : Prop where
  ru : Row wr gu us
  lu : us.length = la + 1
  ro : Row wr gq os
  lo : os.length = D + 1
  fq : Fresh wr w.heap.size (some ⟨gq, 0, none⟩) (D + 1)
  bel : Below w.heap.size w wr
  rv : Row wr gv vs
  lv : vs.length = n
  base : w.heap.size ≤ gu
  ne1 : gu < gv
  ne2 : gv < gq
section
variable {w wr w' : World} {gu gv gq la D n : Nat} {vs us os us' : List Nat}
theorem DMem.stay (h : DMem w wr gu gv gq la D n vs us os) (hb : Below wr.heap.size wr w') : DMem w w' gu gv gq la D n vs us os :=
  ⟨h.ru.call hb, h.lu, h.ro.call hb, h.lo, h.fq.below hb, h.bel.trans (hb.mono h.bel.size), h.rv.call hb, h.lv, h.base, h.ne1, h.ne2⟩
theorem DMem.setq (h : DMem w wr gu gv gq la D n vs us os) {j g : Nat} (hj : j < D + 1) (hg : g < W64) : DMem w (wr.setCell ⟨gq, j, none⟩ (.int .u64 (g : Int))) gu gv gq la D n vs us (os.set j g) :=
  ⟨h.ru.far (p := ⟨gq, j, none⟩) (by have := h.ne1; have := h.ne2; show gu ≠ gq; omega) _, h.lu, h.ro.set (by rw [h.lo]; exact hj) hg, by rw [List.length_set, h.lo], h.fq.set gq j _,
    h.bel.setCell (p := ⟨gq, j, none⟩) (by have := h.base; have := h.ne1; have := h.ne2; show w.heap.size ≤ gq; omega) _, h.rv.far (p := ⟨gq, j, none⟩) (by have := h.ne2; show gv ≠ gq; omega) _, h.lv, h.base, h.ne1, h.ne2⟩
theorem DMem.grown (h : DMem w wr gu gv gq la D n vs us os) (hg : wr.grownBy w' (some gu)) (hr : Row w' gu us') (hl : us'.length = us.length) : DMem w w' gu gv gq la D n vs us' os := by
  have e1 := h.ne1
  have e2 := h.ne2
  have eq : w'.heap[gq]? = wr.heap[gq]? := hg.block gq h.ro.lt (by intro e; injection e; omega)
  refine ⟨hr, hl.trans h.lu, h.ro.of_block eq, h.lo, h.fq.grown hg (fun _ e => by injection e with e; subst e; exact (Nat.ne_of_lt (Nat.lt_trans e1 e2)).symm), below_grown h.bel h.bel.size hg h.base, h.rv.of_block (hg.block gv h.rv.lt (by intro e; injection e; omega)), h.lv, h.base, h.ne1, h.ne2⟩
end
set_option maxHeartbeats 800000 in
set_option maxRecDepth 100000 in
theorem divide_long (A1 A2 : Option Addr) (c1 c2 D lb : Nat) (xs ys : List Nat) (w : World) (h1 : Lim w w.heap.size A1 xs) (h2 : Lim w w.heap.size A2 ys) (hyl : ys.length = lb + 2) (hxl : xs.length = D + (lb + 2)) (hl : xs.length ≤ 549755813888) (ht : ys.getD (lb + 1) 0 ≠ 0) :
    Calls Tryz.prog 90 #[.slice A1 xs.length c1, .slice A2 ys.length c2] w fun e w' => ∃ u v, e = .returned (.tuple #[u, v]) ∧ Part w' w.heap.size u (val xs / val ys) ∧ Part w' w.heap.size v (val xs % val ys) ∧ Sep u v ∧ Below w.heap.size w w' := by
  have HST := Lib.hid (long_start h1.small h2.small hyl hxl ht)
  obtain ⟨ad, rfl, hb, hcell⟩ := h2.at_ (k := lb + 1) (by omega)
  obtain ⟨t, htt⟩ : ∃ t, ys.getD (lb + 1) 0 = t := ⟨_, rfl⟩
  have htW : t < W64 := htt ▸ h2.small.getD _
  rw [htt] at hcell HST
  rw [add_succ] at hcell
  have hlz := Lib.hid (bits_lz64 t htW)
  obtain ⟨s, hs⟩ : ∃ s, 64 - bitLen t = s := ⟨_, rfl⟩
  rw [hs] at HST hlz
  have H1 := Lib.hid h1
  have H2 := Lib.hid h2
  have HL1 := Lib.hid (And.intro hxl hl)
  have HYL := Lib.hid hyl
  have lbI : (lb : Int) + 2 ≤ 549755813888 := by omega
  have hsh1 := divide_shifted A1 c1 xs s
  have hsh2 := divide_shifted (some ad) c2 ys s
  rw [hyl] at hsh2 ⊢
  have HS1 := Lib.hid hsh1
  have HS2 := Lib.hid hsh2
  clear hsh1 hsh2
  have rD : (xs.length : Int) - ((lb : Int) + 2) = (D : Int) := by omega
  have hxI : (xs.length : Int) ≤ 549755813888 := by omega
  have hDI : (D : Int) ≤ 549755813888 := by omega
  have hmk := make_limbs_succ D (by omega)
  clear hl htt ht hs h1 h2 hb hyl htW hxl
  go_enter Tryz.func90, Tryz.ntmps90
  go_wp2_with fail
  go_step3
  go_wp2_with fail
  refine (hlz.out _).mono ?_
  rintro e w1 ⟨rfl, rfl⟩
  clear hcell
  go_upto_region 3 with (fail)
  refine wp_region_stages (fun w' => ∃ δ : Later Nix w, w' = δ.world) [(false, 0), (false, 1), (false, 3), (false, 4), (false, 6), (true, 2), (true, 5), (false, 7), (false, 8)] 9 [.reads [_, _, _, _, _], .loud _, .loud _, .reads [_, _]] [_] (by kernel_rfl) (by kernel_rfl) rfl rfl ?_ ?_
  · exact ⟨⟨_, nix_drawn w⟩, rfl⟩
  refine wpStages_reads ?_
  repeat (go_big_quiet_step (fail))
  refine wpQuiet_nil ?_
  refine wpStages_loud rfl ?_
  intro K hK
  go_big_op
  have ex : Ext Nix w (w.drewN 1) := nix_drawn w
  have hb : Below w.heap.size w (w.drewN 1) := below_drewN (Below.refl _ _) 1
  replace H1 := Lib.hid (H1.out.stay hb)
  replace H2 := Lib.hid (H2.out.stay hb)
  clear hb
  refine ((HS1.out _ (Nat.le_refl _) H1.out (by have := HL1.out; omega) HST.out.1)).mono ?_
  rintro e w1 ⟨gu, us0, rfl, hgu, hul, hrow, hfr, hval, hb⟩
  replace ex : Ext Nix w w1 := ex.later (Ext.of_below hb)
  replace H2 := Lib.hid (H2.out.stay hb)
  clear hb
  refine hK _ _ ⟨⟨_, ex⟩, rfl⟩ ?_
  clear hK K
  have HR1 := Lib.hid hrow
  have HUL := Lib.hid (And.intro hul hval)
  clear hfr hrow hul hval
  refine wpStages_loud rfl ?_
  intro K hK
  go_big_op
  refine ((HS2.out _ (Nat.le_refl _) H2.out (by have := HL1.out; have := HYL.out; omega) HST.out.1)).mono ?_
  rintro e w2 ⟨gv, vs0, rfl, hgv, hvl, hrow, hfr, hval, hb⟩
  replace ex : Ext Nix w w2 := ex.later (Ext.of_below hb)
  replace HR1 := Lib.hid (HR1.out.stay hb)
  clear hb
  refine hK _ _ ⟨⟨_, ex⟩, rfl⟩ ?_
  clear hK K
  have HRV := Lib.hid hrow
  have HVL := Lib.hid (And.intro hvl hval)
  have HGG := Lib.hid (show w.heap.size ≤ gu ∧ gu < gv by have h1 : w.heap.size ≤ gu := hgu.1; have h2 := hgu.2; have h3 := hgv.1; omega)
  clear hrow hfr hvl hval hgu hgv
  refine wpStages_reads ?_
  repeat (go_big_quiet_step (fail))
  refine wpQuiet_nil ?_
  refine wpStages_nil ?_
  have HB := Lib.hid (show Below w.heap.size w w2 from ex.below)
  go_upto_region 5 with (fail)
  go_step3
  obtain ⟨W4, gq, hW4, hgq⟩ : ∃ W gq, w2.alloc (.cells (madeCells #[.int .u64 0] (D + 1)) 85) = W ∧ w2.heap.size = gq := ⟨_, _, rfl, rfl⟩
  have hbq : Below w2.heap.size w2 W4 := by rw [← hW4]; exact (Below.refl _ _).alloc (Nat.le_refl _) _
  have HRQ := Lib.hid (show Row W4 gq (List.replicate (D + 1) 0) by rw [← hW4, ← hgq]; exact Row.made _ _)
  have HFQ := Lib.hid (show Fresh W4 w.heap.size (some ⟨gq, 0, none⟩) (D + 1) by rw [← hW4, ← hgq]; exact (Fresh.made w2 (D + 1)).since HB.out.size)
  have HGQ := Lib.hid (show gv < gq by rw [← hgq]; exact HRV.out.lt)
  rw [hW4, hgq]
  replace HR1 := Lib.hid (HR1.out.stay hbq)
  replace HRV := Lib.hid (HRV.out.stay hbq)
  replace HB := Lib.hid (HB.out.trans (hbq.mono HB.out.size))
  clear hW4 hgq hbq ex H1 H2 HS1 HS2 hlz hmk
  have HV0 := Lib.hid (show val (vs0.take (lb + 2)) = val ys * 2 ^ s by
    have h := HVL.out.2
    have h3 := val_split vs0 (lb + 2) (by rw [HVL.out.1]; omega)
    have h4 := HST.out.2.1
    rcases Nat.eq_zero_or_pos (val (vs0.drop (lb + 2))) with h0 | h0
    · rw [h0, Nat.mul_zero, Nat.add_zero] at h3; rw [← h3, h]
    · have h5 := Nat.mul_le_mul_left (W64 ^ (lb + 2)) (show 1 ≤ val (vs0.drop (lb + 2)) from h0)
      omega)
  have HRV2 := Lib.hid (HRV.out.take (lb + 2))
  obtain ⟨vs, hvs⟩ : ∃ l, vs0.take (lb + 2) = l := ⟨_, rfl⟩
  have HVS := Lib.hid (show vs.length = lb + 2 by rw [← hvs, List.length_take, HVL.out.1]; omega)
  rw [hvs] at HV0 HRV2
  clear hvs HRV HVL
  obtain ⟨n, hn⟩ : ∃ n : Nat, lb + 2 = n := ⟨_, rfl⟩
  have en : (lb : Int) + 2 = (n : Int) := by omega
  rw [en, hn]
  have nI : (n : Int) ≤ 549755813888 := by omega
  have nI2 : (2 : Int) ≤ (n : Int) := by omega
  have xI : (n : Int) ≤ (xs.length : Int) := by omega
  have HN := Lib.hid hn
  clear en hn lbI rD
  obtain ⟨V, hV⟩ : ∃ V, val ys * 2 ^ s = V := ⟨_, rfl⟩
  obtain ⟨M, hM⟩ : ∃ M, val xs * 2 ^ s = M := ⟨_, rfl⟩
  have HUM := Lib.hid (show us0.length = xs.length + 1 ∧ val us0 = M by rw [← hM]; exact HUL.out)
  have HST2 := Lib.hid HST.out
  rw [hV] at HV0 HST2
  rw [hM] at HST2
  have HVE := Lib.hid (And.intro hV hM)
  clear hV hM HUL HST
  go_wp2_with fail
  go_loopw [11] (fun t11 wr => ∃ (j : Nat) (us os : List Nat), j ≤ D + 1 ∧ t11 = .int .i64 ((j : Int) - 1) ∧ Hid (DMem w wr gu gv gq xs.length D n vs us os) ∧ Hid (DSum V M j us os)) (fun t11 _ => (intOf t11 + 1).toNat)
  case atStart =>
    have hdrop : val (us0.drop (D + 1)) < V := by
      have h3 := val_split us0 (D + 1) (by rw [HUM.out.1, HL1.out.1]; omega)
      rw [HUM.out.2] at h3
      exact Nat.lt_of_mul_lt_mul_left (a := W64 ^ (D + 1)) (by have := HST2.out.2.2.2.2; omega)
    exact ⟨D + 1, us0, List.replicate (D + 1) 0, by omega, by simp, Lib.hid ⟨HR1.out, HUM.out.1, HRQ.out, by simp, HFQ.out, HB.out, HRV2.out, by rw [HVS.out, HN.out], HGG.out.1, HGG.out.2, HGQ.out⟩, Lib.hid ⟨hdrop, by
      rw [List.drop_of_length_le (by simp), HUM.out.2]; simp⟩⟩
  case round =>
    clear HR1 HUM HRQ HFQ HB HRV2
    obtain ⟨j, us, os, hj, rfl, HD, HS⟩ := hrel
    rcases j with _ | j
    · have HQ := Lib.hid (show val os = val xs / val ys ∧ val us / 2 ^ s = val xs % val ys by
        have h3 := HS.out.sum
        have h4 := HS.out.less
        have h6 := HVE.out
        rw [List.drop_zero] at h3 h4
        rw [Nat.pow_zero, Nat.mul_one] at h3
        have h5 := div_moved (val xs) (val ys) s (by have := HST2.out.2.2.2.1; omega)
        rw [h6.1, h6.2] at h5
        have hV0 : 0 < V := by omega
        rw [← h5.1, ← h5.2, h3, Nat.mul_comm (val os), Nat.add_mul_div_left _ _ hV0, Nat.div_eq_of_lt h4, Nat.zero_add, Nat.add_mul_mod_self_left, Nat.mod_eq_of_lt h4]
        exact ⟨rfl, rfl⟩)
      have HFIN := Lib.hid (show val (us.take n) = val us ∧ us.getD n 0 = 0 ∧ us.length = xs.length + 1 by
        have h1 := HS.out.less
        rw [List.drop_zero] at h1
        exact ⟨(top_none (k := n) (by rw [HD.out.lu]; have := HL1.out.1; have := HN.out; omega) (Nat.lt_trans h1 (by rw [← HN.out]; exact HST2.out.2.1))).1, (top_none (k := n) (by rw [HD.out.lu]; have := HL1.out.1; have := HN.out; omega) (Nat.lt_trans h1 (by rw [← HN.out]; exact HST2.out.2.1))).2, HD.out.lu⟩)
      have hmk := make_limbs n (by omega)
      go_upto_region 14 with (fail)
      obtain ⟨W5, gr, hW5, hgr⟩ : ∃ W g, wr.alloc (.cells (madeCells #[.int .u64 0] n) 85) = W ∧ wr.heap.size = g := ⟨_, _, rfl, rfl⟩
      have hb5 : Below wr.heap.size wr W5 := by rw [← hW5]; exact (Below.refl _ _).alloc (Nat.le_refl _) _
      have HRR := Lib.hid (show Row W5 gr (List.replicate n 0) by rw [← hW5, ← hgr]; exact Row.made _ _)
      have HFR := Lib.hid (show Fresh W5 gr (some ⟨gr, 0, none⟩) n by rw [← hW5, ← hgr]; exact Fresh.made wr n)
      have HGR := Lib.hid (show gq < gr by rw [← hgr]; exact HD.out.ro.lt)
      rw [hW5, hgr]
      replace HD := Lib.hid (HD.out.stay hb5)
      clear hW5 hgr hb5 hmk
      have HSS := Lib.hid (show s < 64 from HST2.out.1)
      go_wp2_with fail
      go_loopw [109] (fun t109 w3 => ∃ (k : Nat) (rs : List Nat), k ≤ n ∧ t109 = .int .i64 (k : Int) ∧ Hid (rs.length = n) ∧ Hid (Row w3 gr rs) ∧ Hid (W5.grownBy w3 (some gr)) ∧ Hid (Fresh w3 gr (some ⟨gr, 0, none⟩) n) ∧ Hid (val (rs.take k) * 2 ^ s + us.getD 0 0 % 2 ^ s = val (us.take k) + W64 ^ k * (us.getD k 0 % 2 ^ s))) (fun t109 _ => n - (intOf t109).toNat)
      case atStart => exact ⟨0, List.replicate n 0, by omega, rfl, Lib.hid (by simp), HRR, Lib.hid ⟨rfl, rfl, rfl, Nat.le_refl _, fun _ _ _ => rfl⟩, HFR, Lib.hid (by simp)⟩
      case round =>
        clear HRR HFR
        obtain ⟨k, rs, hk, rfl, HRL, HRR, HG3, HFR, HV⟩ := hrel
        by_cases hkn : k < n
        · have hru := HD.out.ru.grew HG3.out (show gu ≠ gr by have := HGR.out; have := HD.out.ne1; have := HD.out.ne2; omega)
          obtain ⟨x, hx⟩ : ∃ x, us.getD k 0 = x := ⟨_, rfl⟩
          obtain ⟨y, hy⟩ : ∃ x, us.getD (k + 1) 0 = x := ⟨_, rfl⟩
          obtain ⟨k1, t63, xd, y2, yd, d, hk1, ek1, et, ex, ey2, eyd, ed, hdW, hstep⟩ := rest_limb (k := k) (x := x) (y := y) (by rw [← hx]; exact hru.small.getD k) HSS.out (show k ≤ 549755813888 by omega)
          have hcx := hru.cell (k := k) (by rw [HFIN.out.2.2]; omega)
          have hcy := hru.cell (k := k + 1) (by rw [HFIN.out.2.2]; omega)
          rw [hx] at hcx
          rw [hy, hk1] at hcy
          have r0 := later_cell hcx
          have r1 := later_cell hcy
          have kI : (k : Int) < (n : Int) := by omega
          have k1I : (k1 : Int) < (xs.length : Int) + 1 := by omega
          have kI2 : (k : Int) < (xs.length : Int) + 1 := by omega
          have sI : (s : Int) < 64 := by have := HSS.out; omega
          have HXY := Lib.hid (And.intro hx (And.intro hy hk1))
          have HDS := Lib.hid (And.intro hdW hstep)
          have hcr := HRR.out.cell (k := k) (by rw [HRL.out]; exact hkn)
          have hfr := HRR.out.free k
          clear hx hy hk1 hstep hdW hcx hcy
          go_upto_region 17 with (fail)
          refine wp_region_stages (fun w' => ∃ δ : Later Nix wr, w' = δ.world) [(false, 0), (false, 1), (false, 2), (false, 3), (false, 4), (false, 5), (false, 6), (false, 7), (false, 8), (false, 9), (false, 10), (false, 11), (false, 12), (false, 13), (false, 14), (false, 15), (false, 16), (false, 17), (false, 18)] 19 [.reads [_, _, _, _, _, _, _, _, _, _, _, _, _, _, _, _, _, _, _]] [_] (by kernel_rfl) (by kernel_rfl) rfl rfl ?_ ?_
          · exact ⟨⟨_, nix_drawn wr⟩, rfl⟩
          refine wpStages_reads ?_
          repeat (go_big_quiet_step (fail))
          refine wpQuiet_nil ?_
          refine wpStages_nil ?_
          have HSTEP := Lib.hid (show val ((rs.set k d).take (k + 1)) * 2 ^ s + us.getD 0 0 % 2 ^ s = val (us.take (k + 1)) + W64 ^ (k + 1) * (us.getD (k + 1) 0 % 2 ^ s) by
            have h1 := HXY.out
            rw [val_take_set rs k d (by rw [HRL.out]; exact hkn), val_take_step us, h1.1, h1.2.1, Nat.pow_succ]
            have h2 := HV.out
            rw [h1.1] at h2
            exact rest_join h2 HDS.out.2)
          have HR2 := Lib.hid (show Row ((wr.drewN 1).setCell ⟨gr, k, none⟩ (.int .u64 (d : Int))) gr (rs.set k d) from (HRR.out.drewN 1).set (by rw [HRL.out]; exact hkn) HDS.out.1)
          have HF4 := Lib.hid (show Fresh ((wr.drewN 1).setCell ⟨gr, k, none⟩ (.int .u64 (d : Int))) gr (some ⟨gr, 0, none⟩) n from (HFR.out.below (below_drewN (Below.refl _ _) 1)).set gr k _)
          have HG4 := Lib.hid (grownBy_trans HG3.out (grownBy_trans (drew_grown wr 1 (some gr)) (only_set (wr.drewN 1) ⟨gr, k, none⟩ (.int .u64 (d : Int)))))
          clear ek1 et ex ey2 eyd ed r0 r1 hru
          go_wp2_with fail
          exact ⟨⟨k + 1, _, by omega, by go_num, Lib.hid (by rw [List.length_set, HRL.out]), HR2, HG4, HF4, HSTEP⟩, by simp [intOf]; omega⟩
        · obtain rfl : k = n := by omega
          have HR := Lib.hid (show val rs = val us / 2 ^ s by
            have h := HV.out
            rw [List.take_of_length_le (l := rs) (by rw [HRL.out]; omega), HFIN.out.1, HFIN.out.2.1, Nat.zero_mod, Nat.mul_zero, Nat.add_zero] at h
            have h2 : us.getD 0 0 % 2 ^ s < 2 ^ s := Nat.mod_lt _ (Nat.pow_pos (by omega))
            rw [← h, Nat.mul_comm, Nat.mul_add_div (Nat.pow_pos (by omega)), Nat.div_eq_of_lt h2]; rfl)
          have kI : ¬ (k : Int) < (k : Int) := by omega
          go_wp2_with fail
          go_ret2
          have e5 := HGR.out
          have hq : Part wr w.heap.size (.slice (some ⟨gq, 0, none⟩) (D + 1) (D + 1)) (val xs / val ys) := by
            have h := Part.row (HD.out.ro.grew HG3.out (by omega)) (base := w.heap.size) (by rw [HD.out.lo]; exact HD.out.fq.grown HG3.out (fun _ e => by injection e with e; subst e; exact Nat.ne_of_lt e5)) (by rw [HD.out.lo]; omega)
            rw [HD.out.lo, HQ.out.1] at h
            exact h
          have hr : Part wr gr (.slice (some ⟨gr, 0, none⟩) k k) (val xs % val ys) := by
            have h := Part.row HRR.out (base := gr) (by rw [HRL.out]; exact HFR.out) (by rw [HRL.out]; omega)
            rw [HRL.out, HR.out, HQ.out.2] at h
            exact h
          have e6 := HD.out.ne1
          have e7 := HD.out.ne2
          have e8 := HD.out.base
          refine ⟨_, _, rfl, hq, hr.since (by omega), fun a b h1 h2 => by cases h1; cases h2; show gq ≠ gr; omega, below_grown HD.out.bel HD.out.bel.size HG3.out (by omega)⟩
    · have e1 : ((j + 1 : Nat) : Int) - 1 = (j : Int) := by omega
      rw [e1]
      have hul := HD.out.lu
      have hla := HL1.out.1
      have hVS := HVS.out
      have hcu2 := HD.out.ru.cell (k := j + (lb + 2)) (by omega)
      have hcu1 := HD.out.ru.cell (k := j + (lb + 1)) (by omega)
      have hcu0 := HD.out.ru.cell (k := j + lb) (by omega)
      have hcv1 := HD.out.rv.cell (k := lb + 1) (by have := HVS.out; omega)
      have hcv0 := HD.out.rv.cell (k := lb) (by have := HVS.out; omega)
      have hW2 := HD.out.ru.small.getD (j + (lb + 2))
      have hW1 := HD.out.ru.small.getD (j + (lb + 1))
      have hW0 := HD.out.ru.small.getD (j + lb)
      have hX1 := HD.out.rv.small.getD (lb + 1)
      have hX0 := HD.out.rv.small.getD lb
      have HSM := Lib.hid HD.out.ru.small
      have HUL := Lib.hid (show j + (lb + 3) ≤ us.length by omega)
      have HJO := Lib.hid (show j < os.length by have := HD.out.lo; omega)
      have HVV := Lib.hid (show 0 < V ∧ V < W64 ^ (lb + 2) from ⟨by have := HS.out.less; omega, HST2.out.2.1⟩)
      obtain ⟨u2, hu2⟩ : ∃ u, us.getD (j + (lb + 2)) 0 = u := ⟨_, rfl⟩
      obtain ⟨u1, hu1⟩ : ∃ u, us.getD (j + (lb + 1)) 0 = u := ⟨_, rfl⟩
      obtain ⟨u0, hu0⟩ : ∃ u, us.getD (j + lb) 0 = u := ⟨_, rfl⟩
      obtain ⟨v1, hv1⟩ : ∃ u, vs.getD (lb + 1) 0 = u := ⟨_, rfl⟩
      obtain ⟨v0, hv0⟩ : ∃ u, vs.getD lb 0 = u := ⟨_, rfl⟩
      rw [hu2] at hcu2 hW2
      rw [hu1] at hcu1 hW1
      rw [hu0] at hcu0 hW0
      rw [hv1] at hcv1 hX1
      rw [hv0] at hcv0 hX0
      have HVP := Lib.hid (show 0 < v1 by
        have h := top_pos (n := lb + 1) HD.out.rv.small (by have := HVS.out; omega) (by rw [HV0.out]; exact HST2.out.2.2.1)
        rw [hv1] at h; omega)
      have r0 := later_cell hcu2
      have r1 := later_cell hcu1
      have r2 := later_cell hcu0
      have r3 := later_cell hcv1
      have r4 := later_cell hcv0
      have HU := Lib.hid (And.intro hu2 (And.intro hu1 (And.intro hu0 (And.intro hv1 hv0))))
      obtain ⟨m2, m1, m0, n1, hm2, hm1, hm0, hn1, jI1, i2, i1, i0, k1, k0, jI4, hw⟩ := long_index (j := j) HN.out HL1.out.1 hj HL1.out.2
      rw [hm2] at r0
      rw [hm1] at r1
      rw [hm0] at r2
      rw [hn1] at r3
      have HW := Lib.hid hw
      have HI2 := Lib.hid i2
      have HM := Lib.hid (And.intro hm2 (And.intro hm1 (And.intro hm0 hn1)))
      clear hul hla hu2 hu1 hu0 hv1 hv0 e1 hcu2 hcu1 hcu0 hcv1 hcv0 hm2 hm1 hm0 hn1 hj nI2 xI hDI hw
      go_upto_region 8 with (fail)
      obtain ⟨⟨s2, s2'⟩, ⟨s1, s1'⟩, ⟨s0, s0'⟩, ⟨y1, y1'⟩, y0, y0'⟩ := HW.out

      refine wp_region_stages (fun w' => ∃ δ : Later Nix wr, w' = δ.world) [(false, 0), (false, 1), (false, 2), (false, 3), (false, 4), (false, 5), (false, 6), (false, 7), (false, 8), (false, 9), (false, 10), (false, 11), (false, 12), (false, 13), (false, 14), (false, 15), (false, 16), (false, 17), (false, 18), (false, 19), (false, 20), (false, 21), (false, 22), (false, 23), (false, 24), (false, 25), (false, 26), (false, 27), (false, 28), (false, 29), (false, 30), (false, 31), (true, 32)] 33 [.reads [_, _, _, _, _, _, _, _, _, _, _, _, _, _, _, _, _, _, _, _, _, _, _, _, _, _, _, _, _, _, _, _], .loud _] [_, _] (by kernel_rfl) (by kernel_rfl) rfl rfl ?_ ?_
      · exact ⟨⟨_, nix_drawn wr⟩, rfl⟩
      refine wpStages_reads ?_
      repeat (go_big_quiet_step (fail))
      refine wpQuiet_nil ?_
      refine wpStages_loud rfl ?_
      intro K hK
      go_big_op
      clear s2 s2' s1 s1' s0 s0' y1 y1' y0 y0' r0 r1 r2 r3 r4 i2 i1 i0 k1 k0
      refine (divide_guess _ _ _ _ _ _ hW2 hW1 hW0 hX1 hX0 HVP.out).mono ?_
      rintro e w1 ⟨g, rfl, hG, q1, rfl⟩
      obtain ⟨W1, hW1⟩ : ∃ W, (wr.drewN 1).drewN q1 = W := ⟨_, rfl⟩
      have hb : Below wr.heap.size wr W1 := by rw [← hW1]; exact below_drewN (below_drewN (Below.refl _ _) 1) q1
      rw [hW1]
      refine hK _ _ ⟨⟨_, Ext.of_nix hb⟩, rfl⟩ ?_
      clear hK K hW1
      replace HD := Lib.hid (HD.out.stay hb)
      clear hb
      have hgW := hG.lt
      have HG := Lib.hid hG
      have hcq := HD.out.ro.cell (k := j) (by rw [HD.out.lo]; omega)
      have hfq := HD.out.ro.free j
      clear hG
      refine wpStages_nil ?_
      go_wp2_with fail
      obtain ⟨W2, hWe⟩ : ∃ W, W1.setCell ⟨gq, j, none⟩ (.int .u64 (g : Int)) = W := ⟨_, rfl⟩
      rw [hWe]
      replace HD := Lib.hid (show DMem w W2 gu gv gq xs.length D n vs us (os.set j g) by rw [← hWe]; exact HD.out.setq (by omega) hgW)
      clear hcq hfq hWe
      have hcq := later_cell (HD.out.ro.cell (k := j) (by rw [HD.out.lo]; omega))
      rw [getD_set_at (by rw [← List.length_set (i := j) (a := g), HD.out.lo]; omega)] at hcq
      have jI2 : (j : Int) ≤ (xs.length : Int) + 1 := by have := HL1.out.1; omega
      have jI3 : ¬ (xs.length + 1 = j) := by have := HL1.out.1; omega
      refine wp_region_stages (fun w' => ∃ δ : Later Nix W2, w' = δ.world) [(false, 0), (false, 1), (false, 2), (false, 3), (false, 4), (false, 5), (false, 6), (false, 7)] 8 [.reads [_, _, _, _, _, _, _, _]] [_, _] (by kernel_rfl) (by kernel_rfl) rfl rfl ?_ ?_
      · exact ⟨⟨_, nix_drawn W2⟩, rfl⟩
      refine wpStages_reads ?_
      repeat (go_big_quiet_step (fail))
      refine wpQuiet_nil ?_
      refine wpStages_nil ?_
      go_wp2_with fail
      have HTK := Lib.hid (divide_take gu j (xs.length + 1 - j) (xs.length + 1 - j) (n + 1) (lb + 1) g us (some ⟨gv, 0, none⟩) vs (W2.drewN 1) (HD.out.ru.drewN 1) (HD.out.rv.drewN 1).lim' (fun ad e => by injection e with e; subst e; exact (Nat.ne_of_lt HD.out.ne1).symm) HVS.out (by rw [HD.out.lu]; have := HL1.out.1; omega) (by have := HL1.out.1; omega) (by rw [HD.out.lu]; have := HL1.out.2; omega) hgW)
      have HN1 := Lib.hid (show lb + 1 + 1 = n from HN.out)
      rw [HN1.out] at HTK
      refine HTK.out.mono ?_
      rintro e w1 ⟨b, us1, rfl, hb1, hrow1, hl1, htk, hdr, hv, hgr⟩
      replace HD := Lib.hid (HD.out.grown (grownBy_trans (drew_grown W2 1 _) hgr) hrow1 hl1)
      have HCASE := Lib.hid (long_taken (q := g) HSM.out HD.out.rv.small HVS.out HV0.out HVV.out.1 HVV.out.2 HUL.out HS.out HU.out HG.out hl1 htk hdr hv hb1)
      clear HTK hb1 hrow1 hl1 htk hdr hv hgr hcq jI2 jI3
      rcases HCASE.out with ⟨rfl, hgiv⟩ | ⟨rfl, hgiv⟩
      · have HGV := Lib.hid (long_given HSM.out HVV.out.1 HVV.out.2 HUL.out HJO.out HS.out hgiv)
        clear hgiv
        go_wp2_with fail
        exact ⟨⟨j, us1, _, by omega, by go_num, HD, HGV⟩, by simp [intOf]⟩
      · have HGI := Lib.hid hgiv
        clear hgiv
        go_wp2_with fail
        obtain ⟨wo, hwo⟩ : ∃ wo : World, wo = w1 := ⟨_, rfl⟩
        subst hwo
        go_loopg [] g (fun gk wr => ∃ us2 : List Nat, Hid (DMem w wr gu gv gq xs.length D n vs us2 (os.set j gk)) ∧ Hid (Giving us us2 j lb V gk) ∧ Hid (gk < W64))
        case atStart => exact ⟨us1, HD, HGI, Lib.hid hgW⟩
        case round =>
          clear HD HGI HCASE
          obtain ⟨us2, HD, HGI, HGW⟩ := hrel
          have jI2 : (j : Int) ≤ (xs.length : Int) + 1 := by have := HL1.out.1; omega
          have jI3 : ¬ (xs.length + 1 = j) := by have := HL1.out.1; omega
          go_wp2_with fail
          have HTK := Lib.hid (divide_give gu j (xs.length + 1 - j) (xs.length + 1 - j) (n + 1) (lb + 1) us2 (some ⟨gv, 0, none⟩) vs wr HD.out.ru HD.out.rv.lim' (fun ad e => by injection e with e; subst e; exact (Nat.ne_of_lt HD.out.ne1).symm) HVS.out (by rw [HD.out.lu]; have := HL1.out.1; omega) (by have := HL1.out.1; omega) (by rw [HD.out.lu]; have := HL1.out.2; omega))
          rw [HN1.out] at HTK
          refine HTK.out.mono ?_
          rintro e w2 ⟨v, c, us3, rfl, hc1, hrow1, hl1, htk, hdr, hv, hgr⟩
          have HSM2 := Lib.hid HD.out.ru.small
          replace HD := Lib.hid (HD.out.grown hgr hrow1 hl1)
          rw [HV0.out] at hv
          have hstep := HGI.out.step HSM2.out HD.out.ru.small HUL.out HVV.out.2 hl1 htk hdr hv hc1
          have hq1 := HGI.out.pos HSM2.out HUL.out
          have HSTEP := Lib.hid hstep
          obtain ⟨q, rfl⟩ : ∃ q, gk = q + 1 := ⟨gk - 1, by omega⟩
          rw [Nat.add_sub_cancel] at HSTEP
          have hcq := HD.out.ro.cell (k := j) (by rw [HD.out.lo]; omega)
          have hfq := HD.out.ro.free j
          rw [getD_set_at HJO.out, Int.natCast_add, Int.natCast_one] at hcq
          have hqW := HGW.out
          have HQ := Lib.hid (HD.out.setq (j := j) (g := q) (by omega) (by omega))
          rw [List.set_set] at HQ
          clear HTK hc1 hrow1 hl1 htk hdr hv hgr hstep hq1 jI2 jI3
          have hqI : (q : Int) + 1 ≤ 18446744073709551615 := by have := lt_W64 hqW; omega
          clear hqW
          go_upto_region 12 with (fail)
          obtain ⟨w3, hw3⟩ : ∃ W, w2.setCell ⟨gq, j, none⟩ (.int .u64 (q : Int)) = W := ⟨_, rfl⟩
          rw [hw3] at HQ ⊢
          clear hw3 HD hqI hcq hfq
          have hcx := HQ.out.ru.cell (k := j + (lb + 2)) (by rw [HQ.out.lu]; have := HL1.out.1; omega)
          obtain ⟨x, hx⟩ : ∃ x, us3.getD (j + (lb + 2)) 0 = x := ⟨_, rfl⟩
          rw [hx] at hcx HSTEP
          rw [HN.out] at hcx
          clear hx
          have i2 : (j : Int) + (n : Int) < (xs.length : Int) + 1 := by have := HL1.out.1; have := HN.out; omega
          rcases HSTEP.out with ⟨hx, hgiv⟩ | ⟨hx, hgiv⟩
          · have hx0 : ((x : Int) == 0) = false := beq_eq_false_iff_ne.2 (by omega)
            have HGI2 := Lib.hid hgiv
            clear hgiv hx
            go_wp2_with fail
            go_roundg q
            case measure => omega
            case rel => exact ⟨us3, HQ, HGI2, Lib.hid (Nat.lt_of_succ_lt HGW.out)⟩
          · subst hx
            have HGV := Lib.hid (long_given HSM.out HVV.out.1 HVV.out.2 HUL.out HJO.out HS.out hgiv)
            clear hgiv
            go_wp2_with fail
            exact ⟨⟨j, us3, _, by omega, by go_num, HQ, HGV⟩, by simp [intOf]⟩
end Go.Proofs.YtonbhpadoplpkaaGreat
/- The package limb: told, Neg, Of, sizes, Cmp, Add, Sub. -/
namespace Go.Proofs.YtonbhpadoplpkaaGreat
open Go.RowKit Go.Deep
/-- What is told of a sign and a size. -/
def toldF (neg : Bool) (n : Nat) : Raw × Int := if 4096 < lc n then ((false, []), 3) else (rawOf (signed neg n), 0)
theorem rawOf_signed (neg : Bool) (n : Nat) : rawOf (signed neg n) = (neg && decide (n ≠ 0), limbs n) := by
  unfold rawOf
  rw [signed_neg, signed_natAbs]
theorem clip_limbs (A : Option Addr) (l c : Nat) (w : World) (hc : l ≤ c) :
    Calls Tryz.prog 124 #[.slice A l c] w fun e w' => e = .returned (.slice A l l) ∧ w = w' := by
  go_enter Tryz.func124, Tryz.ntmps124
  go_wp2_with fail
  go_ret
  exact ⟨rfl, rfl⟩
set_option maxRecDepth 100000 in
theorem limb_told (neg : Bool) (A : Option Addr) (c base : Nat) (xs : List Nat) (w : World) (h : Lim w w.heap.size A xs) (hf : Fresh w base A c) (hc : xs.length ≤ c) (hl : xs.length ≤ 1099511627776) :
    Calls Tryz.prog 86 #[.bool neg, .slice A xs.length c] w fun e w' => ∃ v, e = .returned (.tuple #[v, .int .i64 (toldF neg (val xs)).2]) ∧ RawAt w' base v (toldF neg (val xs)).1 ∧ Below w.heap.size w w' := by
  have HF := Lib.hid hf
  have HC := Lib.hid hc
  clear hf hc
  have HE := Lib.hid (trimL_eq h.small)
  obtain ⟨V, hV⟩ : ∃ V, val xs = V := ⟨_, rfl⟩
  rw [hV] at HE ⊢
  have HV := Lib.hid hV
  clear hV
  go_enter Tryz.func86, Tryz.ntmps86
  go_wp2_with fail
  obtain ⟨W0, r, hW, hr, br, hbw, hsz⟩ := box_new w (.bool false) (.slice none 0 0)
  have h0 : Lim W0 r A xs := (hr ▸ h).below hbw
  have HW := Lib.hid (show w.heap.size = r from hr)
  have HH := Lib.hid h
  rw [hW, hr]
  clear hW hr h
  have d0 := br.cell0
  have d1 := br.cell1
  have fr := br.free
  go_loop [1] (fun v => ∃ n : Nat, n ≤ xs.length ∧ v = .slice A n c ∧ trimL (xs.take n) = trimL xs) (fun v => match v with | .slice _ n _ => n | _ => 0)
  case atStart => exact ⟨xs.length, Nat.le_refl _, rfl, by simp⟩
  case round =>
    obtain ⟨n, hn, rfl, ht⟩ := hrel
    have HT := Lib.hid ht
    clear ht
    rcases n with _ | n
    · have HZ := Lib.hid (show toldF neg V = ((false, []), 0) by
        have h1 := HE.out
        rw [← HT.out] at h1
        have h2 : V = 0 := limbs_eq_nil.1 (by rw [← h1]; rfl)
        subst h2
        unfold toldF
        rw [if_neg (by rw [lc_zero]; omega), rawOf_signed, limbs_zero]
        simp)
      go_wp2_with fail
      refine bodyPost_ret (v := .tuple #[.agg #[.bool false, (.slice none 0 0)], (.int .i64 0)]) (by
        rw [results_cell_tmp rfl]
        have hld := run_loadVar_row (P := Tryz.prog) _ r 24 24 #[.bool false, (.slice none 0 0)] (0, 0) _ br.store Tryz.underlying24 rfl (by kernel_rfl)
        simp [asAddr, Result.andThen, hld]) rfl ?_
      rw [HZ.out]
      exact ⟨_, rfl, RawAt.zero _ _, by rw [HW.out]; exact store2_below hbw (Nat.le_refl _)⟩
    · obtain ⟨ad, hAd, hb, hcell⟩ := h0.at_ (k := n) (by omega)
      subst hAd
      obtain ⟨x, hx⟩ : ∃ x, xs.getD n 0 = x := ⟨_, rfl⟩
      rw [hx] at hcell
      have HX := Lib.hid hx
      clear hx
      have hnc : ((n + 1 : Nat) : Int) - 1 = (n : Int) := by omega
      have hb0 : (0 : Int) < ((n + 1 : Nat) : Int) := by omega
      have hb1 : (n : Int) < ((n + 1 : Nat) : Int) := by omega
      have hb2 : (n : Int) ≤ ((n + 1 : Nat) : Int) := by omega
      have hncc : n ≤ c := by have := HC.out; omega
      by_cases hx0 : x = 0
      · have t0 : ((x : Int) == 0) = true := by simp [hx0]
        have HS := Lib.hid (show trimL (xs.take n) = trimL xs by rw [← HT.out, trimL_zero xs n (by omega) (by have := HX.out; omega)])
        clear hx0
        go_wp2_with fail
        exact ⟨⟨n, by omega, rfl, HS.out⟩, by simp⟩
      · have t0 : ((x : Int) == 0) = false := beq_eq_false_iff_ne.2 (by omega)
        have HL := Lib.hid (show xs.take (n + 1) = limbs V by rw [← HE.out, ← HT.out, trimL_pos xs n (by omega) (by have := HX.out; omega)])
        have HLN := Lib.hid (show lc V = n + 1 by
          unfold lc
          rw [← HL.out, List.length_take]; omega)
        have HN1 := Lib.hid (show n + 1 ≤ xs.length from hn)
        clear hx0
        by_cases hlong : n + 1 ≤ 4096
        · have hlI : ((n + 1 : Nat) : Int) ≤ 4096 := by omega
          have hz : (((n + 1 : Nat) : Int) == 0) = false := beq_eq_false_iff_ne.2 (by omega)
          have HZ := Lib.hid (show toldF neg V = ((neg, limbs V), 0) by
            unfold toldF
            rw [if_neg (by rw [HLN.out]; omega), rawOf_signed]
            have h0 : V ≠ 0 := fun e => by
              have := HLN.out
              rw [e, lc_zero] at this
              omega
            rw [decide_eq_true h0, Bool.and_true])
          clear hlong
          go_wp2_with fail
          refine (clip_limbs _ _ _ _ (by have := HC.out; omega)).mono ?_
          rintro e w1 ⟨rfl, rfl⟩
          go_wp2_with fail
          refine bodyPost_ret (v := .tuple #[.agg #[.bool neg, (.slice (some ad) (n + 1) (n + 1))], (.int .i64 0)]) (by
            rw [results_cell_tmp rfl]
            have hld := run_loadVar_row (P := Tryz.prog) _ r 24 24 #[.bool neg, (.slice (some ad) (n + 1) (n + 1))] (0, 0) _ br.store Tryz.underlying24 rfl (by kernel_rfl)
            simp [asAddr, Result.andThen, hld]) rfl ?_
          rw [HZ.out]
          have hlim := HH.out.take (n + 1)
          rw [HL.out] at hlim
          exact ⟨_, rfl, RawAt.of (x := (neg, limbs V)) hlim (HF.out.cut (by have := HC.out; have := HN1.out; omega)) (by rw [← HLN.out]; rfl) (Nat.le_refl _) (by rw [HW.out]; exact store2_below hbw (Nat.le_refl _)), by rw [HW.out]; exact store2_below hbw (Nat.le_refl _)⟩
        · have hlI : (4096 : Int) < ((n + 1 : Nat) : Int) := by omega
          have HZ := Lib.hid (show toldF neg V = ((false, []), 3) by
            unfold toldF
            rw [if_pos (by rw [HLN.out]; omega)])
          clear hlong
          go_wp2_with fail
          refine bodyPost_ret (v := .tuple #[.agg #[.bool false, (.slice none 0 0)], (.int .i64 3)]) (by
            rw [results_cell_tmp rfl]
            have hld := run_loadVar_row (P := Tryz.prog) _ r 24 24 #[.bool false, (.slice none 0 0)] (0, 0) _ br.store Tryz.underlying24 rfl (by kernel_rfl)
            simp [asAddr, Result.andThen, hld]) rfl ?_
          rw [HZ.out]
          exact ⟨_, rfl, RawAt.zero _ _, by rw [HW.out]; exact store2_below hbw (Nat.le_refl _)⟩
theorem told_right {neg : Bool} {n : Nat} (h : lc n ≤ 4096) : toldF neg n = (rawOf (signed neg n), 0) := by
  unfold toldF
  rw [if_neg (by omega)]
set_option maxRecDepth 100000 in
theorem limb_Neg (v : Value) (z : Int) (w : World) (h : IntV w v z) (hl : lc z.natAbs ≤ 4096) :
    Calls Tryz.prog 64 #[v] w fun e w' => ∃ v', e = .returned (.tuple #[v', .int .i64 0]) ∧ RawAt w' w.heap.size v' (rawOf (-z)) ∧ Below w.heap.size w w' := by
  obtain ⟨A, l, c, rfl, hll, hc, hlim⟩ := h
  have HR := Lib.hid (right_of hl)
  have HLL := Lib.hid hll
  have HC := Lib.hid hc
  have HL := Lib.hid hl
  have HLIM := Lib.hid hlim
  have hlI : (l : Int) ≤ 4096 := by unfold lc at hl; omega
  clear hll hc hl
  obtain ⟨s, hs⟩ : ∃ s, decide (z < 0) = s := ⟨_, rfl⟩
  have HS := Lib.hid hs
  rw [hs]
  clear hs
  go_enter Tryz.func64, Tryz.ntmps64
  go_wp2_with fail
  obtain ⟨W0, g, r, hW, hg, hr, hgr, bx, br, hbw, hsz⟩ := box_two w (.bool s) (.slice A l c) (.bool false) (.slice none 0 0)
  have HW := Lib.hid (show w.heap.size = g from hg)
  rw [hW, hr, hg]
  have h0 := (hg ▸ hlim : Lim w g A (limbs z.natAbs)).below hbw
  clear hW hr hg hlim
  refine (limb_right s A l c (limbs z.natAbs) W0 (by omega) h0 HLL.out).mono ?_
  rintro e w1 ⟨rfl, hb1⟩
  rw [← HS.out, HR.out, HS.out]
  have bx1 := bx.below hb1 bx.lt
  have br1 := br.below hb1 br.lt
  have hbw1 : Below g w w1 := below_then hbw (by omega) hb1
  have hbw1' : Below g W0 w1 := hb1.mono (by omega)
  have hlim1 := (h0.below hbw1').more (show g ≤ w1.heap.size by have := hb1.size; omega)
  have r0 := later_cell bx1.cell0
  have r1 := later_cell bx1.cell1
  have HLIM1 := Lib.hid hlim1
  have BR1 := Lib.hid br1
  have HBW1 := Lib.hid hbw1
  clear h0 hlim1 br br1 bx bx1 hb1 hbw hbw1
  go_wp2_with fail
  refine wp_region_stages (fun w' => ∃ δ : Later Nix w1, w' = δ.world) [(false, 0), (false, 1), (false, 2), (false, 3), (false, 4), (true, 5), (true, 6), (false, 7), (false, 8)] 9 [.reads [_, _, _, _, _], .loud _, .loud _, .reads [_, _]] [_, _] (by kernel_rfl) (by kernel_rfl) rfl rfl ?_ ?_
  · exact ⟨⟨_, nix_drawn w1⟩, rfl⟩
  refine wpStages_reads ?_
  repeat (go_big_quiet_step (fail))
  refine wpQuiet_nil ?_
  refine wpStages_loud rfl ?_
  intro K hK
  go_big_op
  rw [HLL.out]
  refine (clone_own A c (limbs z.natAbs) (w1.drewN 1) (Nat.le_refl _) (HLIM1.out.drewN 1) (by rw [← HLL.out]; exact HC.out) (by have := HL.out; unfold lc at this; omega)).mono ?_
  rintro e w2 ⟨A', c', rfl, hc', hlim', hfr, hb⟩
  have he : Ext Nix w1 w2 := (nix_drawn w1).later (Ext.of_below hb)
  refine hK _ _ ⟨⟨w2, he⟩, rfl⟩ ?_
  clear hK K
  refine wpStages_loud rfl ?_
  intro K hK
  go_big_op
  refine (limb_told (!s) A' c' _ (limbs z.natAbs) w2 hlim' hfr hc' (by have := HL.out; unfold lc at this; omega)).mono ?_
  rintro e w3 ⟨v, rfl, hv, hb3⟩
  have he3 : Ext Nix w1 w3 := he.later (Ext.of_below hb3)
  refine hK _ _ ⟨⟨w3, he3⟩, rfl⟩ ?_
  clear hK K
  rw [val_limbs, told_right HL.out] at hv ⊢
  obtain ⟨b3, A3, l3, c3, rfl, HV⟩ := hv.open
  clear hv
  refine wpStages_reads ?_
  repeat (go_big_quiet_step (fail))
  refine wpQuiet_nil ?_
  refine wpStages_nil ?_
  have hb13 : Below w1.heap.size w1 w3 := Ext.below (he3.mono (fun _ _ h => h) (fun _ h => h.elim))
  have br3 := BR1.out.below hb13 BR1.out.lt
  have d0 := br3.cell0
  have d1 := br3.cell1
  have fr := br3.free
  go_wp2_with fail
  refine bodyPost_ret (v := .tuple #[.agg #[.bool b3, (.slice A3 l3 c3)], (.int .i64 0)]) (by
    rw [results_cell_tmp rfl]
    have hld := run_loadVar_row (P := Tryz.prog) _ r 24 24 #[.bool b3, (.slice A3 l3 c3)] (0, 0) _ br3.store Tryz.underlying24 rfl (by kernel_rfl)
    simp [asAddr, Result.andThen, hld]) rfl ?_
  have HSG := signed_not z
  rw [HS.out] at HSG
  have hbF : Below g w w3 := below_then HBW1.out (by have := HW.out; have := HBW1.out.size; omega) hb13
  have hbl := BR1.out.lt
  have hv := HV.out.ext (ext_store2 (a := .bool b3) (b := .slice A3 l3 c3) br3.nums) (fun i hi => by subst hi; exact hbl)
  rw [HSG] at hv
  exact ⟨_, rfl, hv.since (by have := HW.out; have h : (w1.drewN 1).heap.size = w1.heap.size := rfl; omega), by rw [HW.out]; exact store2_below hbF (by omega)⟩
set_option maxRecDepth 100000 in
theorem limb_sizes (A1 A2 : Option Addr) (l1 l2 c1 c2 m n : Nat) (w : World) {B : Nat} (h1 : Lim w B A1 (limbs m)) (h2 : Lim w B A2 (limbs n)) (e1 : l1 = (limbs m).length) (e2 : l2 = (limbs n).length) (hl : l1 ≤ 35184372088832) (hl2 : l2 ≤ 35184372088832) :
    Calls Tryz.prog 82 #[.slice A1 l1 c1, .slice A2 l2 c2] w fun e w' => ∃ r : Int, e = .returned (.int .i64 r) ∧ ((r < 0 ↔ m < n) ∧ (0 < r ↔ n < m)) ∧ ∃ q, w' = w.drewN q := by
  have hm : val (limbs m) = m := val_limbs m
  have hn : val (limbs n) = n := val_limbs n
  have hlc1 : lc m = (limbs m).length := rfl
  have hlc2 : lc n = (limbs n).length := rfl
  generalize limbs m = xs at *
  generalize limbs n = ys at *
  by_cases heq : l1 = l2
  · subst heq
    have t0 : ((l1 : Int) != (l1 : Int)) = false := by simp
    have HM := Lib.hid hm
    have HN := Lib.hid hn
    have HE1 := Lib.hid e1
    have HE2 := Lib.hid e2
    clear hm hn hlc1 hlc2 e1 e2
    go_enter Tryz.func82, Tryz.ntmps82
    go_wp2_with fail
    go_loopw [20] (fun i wr => ∃ k j : Nat, k + j = l1 ∧ i = .int .i64 (j : Int) ∧ xs.drop k = ys.drop k ∧ ∃ q, wr = w.drewN q) (fun i _ => l1 - (intOf i).toNat)
    case atStart => exact ⟨l1, 0, by omega, rfl, by rw [List.drop_of_length_le (by rw [HE1.out]; omega), List.drop_of_length_le (by rw [HE2.out]; omega)], 0, rfl⟩
    case round =>
      obtain ⟨k, j, hkj, rfl, hd, q, rfl⟩ := hrel
      have HD := Lib.hid hd
      clear hd
      rcases k with _ | k
      · have hj : ¬ ((j : Int) < (l1 : Int)) := by omega
        go_wp2_with fail
        go_ret
        have e : xs = ys := by simpa using HD.out
        have e2 : m = n := by rw [← HM.out, ← HN.out, e]
        exact ⟨0, rfl, by omega, q, rfl⟩
      · obtain ⟨ad, rfl, hb, hcell⟩ := h1.at_ (k := k) (by rw [← HE1.out]; omega)
        obtain ⟨ad2, rfl, hb2, hcell2⟩ := h2.at_ (k := k) (by rw [← HE2.out]; omega)
        obtain ⟨x, hx⟩ : ∃ x, xs.getD k 0 = x := ⟨_, rfl⟩
        obtain ⟨y, hy⟩ : ∃ y, ys.getD k 0 = y := ⟨_, rfl⟩
        rw [hx] at hcell
        rw [hy] at hcell2
        have HX := Lib.hid hx
        have HY := Lib.hid hy
        clear hx hy
        have e3 : (l1 : Int) - 1 - (j : Int) = (k : Int) := by omega
        have b0 : (0 : Int) ≤ (k : Int) := by omega
        have b1 : (k : Int) < (l1 : Int) := by omega
        have b2 : (j : Int) < (l1 : Int) := by omega
        have hkl : k < l1 := by omega
        rcases Nat.lt_trichotomy x y with hxy | hxy | hxy
        · have HE := Lib.hid (show m < n by rw [← HM.out, ← HN.out]; exact val_lt_top h1.small h2.small (by rw [← HE1.out, ← HE2.out]) (by rw [← HE1.out]; omega) HD.out (by rw [HX.out, HY.out]; exact hxy))
          go_wp2_with fail
          go_quiet (fail)
          go_wp2_with fail
          go_ret
          have := HE.out
          exact ⟨-1, rfl, by omega, _, rfl⟩
        · subst hxy
          have HDS := Lib.hid (drop_same (xs := xs) (ys := ys) (by rw [← HE1.out, ← HE2.out]) (by rw [← HE1.out]; omega) HD.out (by rw [HX.out, HY.out]))
          go_wp2_with fail
          go_quiet (fail)
          go_wp2_with fail
          exact ⟨⟨k, j + 1, by omega, by go_num, HDS.out, _, rfl⟩, by simp [intOf]; omega⟩
        · have HE := Lib.hid (show n < m by rw [← HM.out, ← HN.out]; exact val_lt_top h2.small h1.small (by rw [← HE1.out, ← HE2.out]) (by rw [← HE2.out]; omega) HD.out.symm (by rw [HX.out, HY.out]; exact hxy))
          go_wp2_with fail
          go_quiet (fail)
          go_wp2_with fail
          go_ret
          have := HE.out
          exact ⟨1, rfl, by omega, _, rfl⟩
  · have t0 : ((l1 : Int) != (l2 : Int)) = true := by rw [bne_iff_ne]; omega
    have HQ := Lib.hid (show ((l1 : Int) - (l2 : Int) < 0 ↔ m < n) ∧ (0 < (l1 : Int) - (l2 : Int) ↔ n < m) by
      rcases Nat.lt_trichotomy l1 l2 with h | h | h
      · have := lc_lt (show lc m < lc n by omega)
        omega
      · omega
      · have := lc_lt (show lc n < lc m by omega)
        omega)
    clear hm hn hlc1 hlc2 e1 e2 heq
    go_enter Tryz.func82, Tryz.ntmps82
    go_wp2_with fail
    go_ret
    exact ⟨_, rfl, HQ.out, 0, rfl⟩
end Go.Proofs.YtonbhpadoplpkaaGreat
/- The package limb, on: Cmp, Add, Sub, Of. -/
namespace Go.Proofs.YtonbhpadoplpkaaGreat
open Go.RowKit Go.Deep
theorem cmpZ_case (x y : Int) (r : Int) (h : (r < 0 ↔ x.natAbs < y.natAbs) ∧ (0 < r ↔ y.natAbs < x.natAbs)) :
    cmpZ x y = if (decide (x < 0) != decide (y < 0) && decide (x < 0) || decide (x < 0) == decide (y < 0) && decide (x < 0) && decide (0 < r) || decide (x < 0) == decide (y < 0) && !decide (x < 0) && decide (r < 0)) then -1 else if decide (x < 0) == decide (y < 0) && r == 0 then 0 else 1 := by
  unfold cmpZ
  by_cases h1 : x < 0 <;> by_cases h2 : y < 0 <;> simp [h1, h2] <;> grind
set_option maxRecDepth 100000 in
theorem limb_Cmp (u v : Value) (x y : Int) (w : World) (hx : IntV w u x) (hy : IntV w v y) (lx : lc x.natAbs ≤ 4096) (ly : lc y.natAbs ≤ 4096) :
    Calls Tryz.prog 67 #[u, v] w fun e w' => e = .returned (.tuple #[.int .i64 (cmpZ x y), .int .i64 0]) ∧ Below w.heap.size w w' := by
  obtain ⟨A1, l1, c1, rfl, hl1, hc1, hlim1⟩ := hx
  obtain ⟨A2, l2, c2, rfl, hl2, hc2, hlim2⟩ := hy
  have HR1 := Lib.hid (right_of lx)
  have HR2 := Lib.hid (right_of ly)
  have HL1 := Lib.hid hl1
  have HL2 := Lib.hid hl2
  have hI1 : (l1 : Int) ≤ 4096 := by unfold lc at lx; omega
  have hI2 : (l2 : Int) ≤ 4096 := by unfold lc at ly; omega
  have HX := Lib.hid lx
  have HY := Lib.hid ly
  clear hl1 hl2 lx ly
  obtain ⟨s1, hs1⟩ : ∃ s, decide (x < 0) = s := ⟨_, rfl⟩
  obtain ⟨s2, hs2⟩ : ∃ s, decide (y < 0) = s := ⟨_, rfl⟩
  have HS1 := Lib.hid hs1
  have HS2 := Lib.hid hs2
  rw [hs1, hs2]
  clear hs1 hs2
  go_enter Tryz.func67, Tryz.ntmps67
  go_wp2_with fail
  obtain ⟨W0, g, h, hW, hg, hr, hgr, bx, by_, hbw, hsz⟩ := box_two w (.bool s1) (.slice A1 l1 c1) (.bool s2) (.slice A2 l2 c2)
  have HW := Lib.hid (show w.heap.size = g from hg)
  rw [hW, hr, hg]
  have k1 := ((hg ▸ hlim1 : Lim w g A1 (limbs x.natAbs)).below hbw)
  have k2 := ((hg ▸ hlim2 : Lim w g A2 (limbs y.natAbs)).below hbw)
  clear hW hr hg hlim1 hlim2
  refine (limb_right s1 A1 l1 c1 (limbs x.natAbs) W0 (by omega) k1 HL1.out).mono ?_
  rintro e w1 ⟨rfl, hb1⟩
  rw [← HS1.out, HR1.out, HS1.out]
  have hb1 : Below g W0 w1 := hb1.mono (by omega)
  have hbw1 := hbw.trans hb1
  have k1 := k1.below hb1
  have k2 := k2.below hb1
  have bx := bx.below (B := W0.heap.size) (by assumption) bx.lt
  have by_ := by_.below (B := W0.heap.size) (by assumption) by_.lt
  have a0 := bx.cell0
  have a1 := bx.cell1
  have b0 := by_.cell0
  have b1 := by_.cell1
  go_wp2_with fail
  refine (limb_right s2 A2 l2 c2 (limbs y.natAbs) w1 (by have := hb1.size; omega) k2 HL2.out).mono ?_
  rintro e w2 ⟨rfl, hb2⟩
  rw [← HS2.out, HR2.out, HS2.out]
  have bx := bx.below hb2 bx.lt
  have by_ := by_.below hb2 by_.lt
  have hbw2 := hbw1.trans (hb2.mono (by have := hb1.size; omega))
  have k1 := k1.below (hb2.mono (by have := hb1.size; omega))
  have k2 := k2.below (hb2.mono (by have := hb1.size; omega))
  have a0 := bx.cell0
  have a1 := bx.cell1
  have b0 := by_.cell0
  have b1 := by_.cell1
  go_wp2_with fail
  refine (limb_sizes A1 A2 l1 l2 c1 c2 x.natAbs y.natAbs w2 k1 k2 HL1.out HL2.out (by omega) (by omega)).mono ?_
  rintro e w3 ⟨q, rfl, hq, n, rfl⟩
  have HC := Lib.hid (cmpZ_case x y q hq)
  rw [HS1.out, HS2.out] at HC
  have hF : Below w.heap.size w (w2.drewN n) := by rw [HW.out]; exact below_drewN hbw2 n
  have HF := Lib.hid hF
  have a0 : (w2.drewN n).cell? ⟨g, 0, none⟩ = some (.bool s1) := a0
  have b0 : (w2.drewN n).cell? ⟨h, 0, none⟩ = some (.bool s2) := b0
  clear hF hbw2 k1 k2 hbw1 hb1 hb2
  rcases Int.lt_trichotomy q 0 with hq0 | hq0 | hq0
  · have HQ := Lib.hid hq0
    have q1 : ¬ (0 < q) := by omega
    have q2 : (q == 0) = false := beq_eq_false_iff_ne.2 (by omega)
    clear hq
    cases s1 <;> cases s2
    all_goals
      have HZ := Lib.hid (HC.out.trans (by simp [HQ.out, q1, q2]; rfl) : cmpZ x y = _)
      go_wp2_with fail
      go_ret2
      rw [HZ.out]
      exact ⟨rfl, HF.out⟩
  · subst hq0
    clear hq
    cases s1 <;> cases s2
    all_goals
      have HZ := Lib.hid (HC.out.trans (by simp; rfl) : cmpZ x y = _)
      go_wp2_with fail
      go_ret2
      rw [HZ.out]
      exact ⟨rfl, HF.out⟩
  · have HQ := Lib.hid hq0
    have q1 : ¬ (q < 0) := by omega
    have q2 : (q == 0) = false := beq_eq_false_iff_ne.2 (by omega)
    clear hq
    cases s1 <;> cases s2
    all_goals
      have HZ := Lib.hid (HC.out.trans (by simp [HQ.out, q1, q2]; rfl) : cmpZ x y = _)
      go_wp2_with fail
      go_ret2
      rw [HZ.out]
      exact ⟨rfl, HF.out⟩
set_option maxRecDepth 100000 in
theorem limb_behind1 (i h l c : Nat) (A : Option Addr) (xs : List Nat) (w : World) {B : Nat} (hb : w.cell? ⟨h, 0, none⟩ = some (.slice A l c)) (h1 : Lim w B A xs) (hl : l = xs.length) (_hlI : (l : Int) ≤ 4096) :
    Calls Tryz.prog 123 #[.int .i64 (i : Int), .pointer (some ⟨h, 0, none⟩)] w fun e w' => e = .returned (.int .u64 ((xs.getD i 0 : Nat) : Int)) ∧ w = w' := by
  by_cases hi : i < l
  · obtain ⟨ad, rfl, _, hcell⟩ := h1.at_ (k := i) (by omega)
    obtain ⟨x, hx⟩ : ∃ x, xs.getD i 0 = x := ⟨_, rfl⟩
    rw [hx] at hcell ⊢
    have hI : (i : Int) < (l : Int) := by omega
    clear hx hl
    go_enter Tryz.func123, Tryz.ntmps123
    go_wp2_with fail
    go_ret
    exact ⟨rfl, rfl⟩
  · have hI : ¬ ((i : Int) < (l : Int)) := by omega
    rw [show xs.getD i 0 = 0 by simp [show xs.length ≤ i by omega]]
    clear hl hi
    go_enter Tryz.func123, Tryz.ntmps123
    go_wp2_with fail
    go_ret
    exact ⟨rfl, rfl⟩
set_option maxRecDepth 100000 in
theorem limb_behind (A : Option Addr) (l c : Nat) (w : World) : Calls Tryz.prog 83 #[.slice A l c] w fun e w' => e = .returned (.func (.func 123) #[] #[.pointer (some ⟨w.heap.size, 0, none⟩)]) ∧ w' = w.alloc (.cells #[.slice A l c] 22) := by
  go_enter Tryz.func83, Tryz.ntmps83
  go_wp2_with fail
  go_ret
  exact ⟨rfl, rfl⟩
end Go.Proofs.YtonbhpadoplpkaaGreat
/- The package limb, on: Add, Sub, Of. -/
namespace Go.Proofs.YtonbhpadoplpkaaGreat
open Go.RowKit Go.Deep
/-- What is told of a whole number: it, or that it is too long. -/
def longR (z : Int) : Raw := if 4096 < lc z.natAbs then (false, []) else rawOf z
def longE (z : Int) : Int := if 4096 < lc z.natAbs then 3 else 0
theorem longR_ok {z : Int} (h : lc z.natAbs ≤ 4096) : longR z = rawOf z := by unfold longR; rw [if_neg (by omega)]
theorem longE_ok {z : Int} (h : lc z.natAbs ≤ 4096) : longE z = 0 := by unfold longE; rw [if_neg (by omega)]
theorem toldF_signed {neg : Bool} {n : Nat} {z : Int} (h : signed neg n = z) : toldF neg n = (longR z, longE z) := by
  subst h
  unfold longR longE
  rw [signed_natAbs]
  unfold toldF
  split <;> rfl
theorem limb_told' (neg : Bool) (A : Option Addr) (l c base : Nat) (xs : List Nat) (w : World) (h : Lim w w.heap.size A xs) (hf : Fresh w base A c) (hx : l = xs.length) (hc : l ≤ c) (hl : l ≤ 1099511627776) :
    Calls Tryz.prog 86 #[.bool neg, .slice A l c] w fun e w' => ∃ v, e = .returned (.tuple #[v, .int .i64 (toldF neg (val xs)).2]) ∧ RawAt w' base v (toldF neg (val xs)).1 ∧ Below w.heap.size w w' := by
  subst hx
  exact limb_told neg A c base xs w h hf hc hl
set_option maxHeartbeats 1000000 in
set_option maxRecDepth 100000 in
theorem limb_Add (u v : Value) (x y : Int) (w : World) (hx : IntV w u x) (hy : IntV w v y) (lx : lc x.natAbs ≤ 4096) (ly : lc y.natAbs ≤ 4096) :
    Calls Tryz.prog 41 #[u, v] w fun e w' => ∃ v', e = .returned (.tuple #[v', .int .i64 (longE (x + y))]) ∧ RawAt w' w.heap.size v' (longR (x + y)) ∧ Below w.heap.size w w' := by
  obtain ⟨A1, l1, c1, rfl, hl1, hc1, hlim1⟩ := hx
  obtain ⟨A2, l2, c2, rfl, hl2, hc2, hlim2⟩ := hy
  have HR1 := Lib.hid (right_of lx)
  have HR2 := Lib.hid (right_of ly)
  have HL1 := Lib.hid hl1
  have HL2 := Lib.hid hl2
  have hI1 : (l1 : Int) ≤ 4096 := by unfold lc at lx; omega
  have hI2 : (l2 : Int) ≤ 4096 := by unfold lc at ly; omega
  have HX := Lib.hid lx
  have HY := Lib.hid ly
  clear hl1 hl2 lx ly
  obtain ⟨s1, hs1⟩ : ∃ s, decide (x < 0) = s := ⟨_, rfl⟩
  obtain ⟨s2, hs2⟩ : ∃ s, decide (y < 0) = s := ⟨_, rfl⟩
  have HS1 := Lib.hid hs1
  have HS2 := Lib.hid hs2
  rw [hs1, hs2]
  clear hs1 hs2
  go_enter Tryz.func41, Tryz.ntmps41
  go_wp2_with fail
  obtain ⟨W0, g, h, r, hW, hg, hh, hr, hgr, bx, by_, br, hbw, hsz⟩ := box_three w (.bool s1) (.slice A1 l1 c1) (.bool s2) (.slice A2 l2 c2) (.bool false) (.slice none 0 0)
  have HW := Lib.hid (show w.heap.size = g from hg)
  rw [hW, hr, hh, hg]
  have k1 := ((hg ▸ hlim1 : Lim w g A1 (limbs x.natAbs)).below hbw)
  have k2 := ((hg ▸ hlim2 : Lim w g A2 (limbs y.natAbs)).below hbw)
  clear hW hr hg hh hlim1 hlim2
  refine (limb_right s1 A1 l1 c1 (limbs x.natAbs) W0 (by omega) k1 HL1.out).mono ?_
  rintro e w1 ⟨rfl, hb1⟩
  rw [← HS1.out, HR1.out, HS1.out]
  have bx := bx.below hb1 bx.lt
  have by_ := by_.below hb1 by_.lt
  have br := br.below hb1 br.lt
  have hbw1 := hbw.trans (hb1.mono (by omega))
  have k1 := k1.below (hb1.mono (by omega))
  have k2 := k2.below (hb1.mono (by omega))
  have hsz1 := hb1.size
  have a0 := bx.cell0
  have a1 := bx.cell1
  have b0 := by_.cell0
  have b1 := by_.cell1
  clear hb1
  go_wp2_with fail
  refine (limb_right s2 A2 l2 c2 (limbs y.natAbs) w1 (by omega) k2 HL2.out).mono ?_
  rintro e w2 ⟨rfl, hb2⟩
  rw [← HS2.out, HR2.out, HS2.out]
  have bx := bx.below hb2 bx.lt
  have by_ := by_.below hb2 by_.lt
  have br := br.below hb2 br.lt
  have hbw2 := hbw1.trans (hb2.mono (by omega))
  have k1 := k1.below (hb2.mono (by omega))
  have k2 := k2.below (hb2.mono (by omega))
  have hsz2 := hb2.size
  clear hb2 a0 a1 b0 b1 hbw1 hbw
  have a0 := bx.cell0
  have a1 := bx.cell1
  have b0 := by_.cell0
  have b1 := by_.cell1
  go_wp2_with fail
  refine (limb_sizes A1 A2 l1 l2 c1 c2 x.natAbs y.natAbs w2 k1 k2 HL1.out HL2.out (by omega) (by omega)).mono ?_
  rintro e w3 ⟨q, rfl, hq, n, rfl⟩
  have bx : Box2 (w2.drewN n) g (.bool s1) (.slice A1 l1 c1) := bx
  have by_ : Box2 (w2.drewN n) h (.bool s2) (.slice A2 l2 c2) := by_
  have br : Box2 (w2.drewN n) r (.bool false) (.slice none 0 0) := br
  have hbw3 := below_drewN hbw2 n
  have k1 := k1.drewN n
  have k2 := k2.drewN n
  have hsz3 : g + 3 ≤ (w2.drewN n).heap.size := by show g + 3 ≤ w2.heap.size; omega
  generalize w2.drewN n = w3 at bx by_ br hbw3 k1 k2 hsz3 ⊢
  clear a0 a1 b0 b1 hbw2 hsz1 hsz2 hsz
  have a0 := bx.cell0
  have a1 := bx.cell1
  have b0 := by_.cell0
  have b1 := by_.cell1
  have fa := bx.free
  have fb := by_.free
  have HB := Lib.hid hbw3
  have BR := Lib.hid br
  have BX := Lib.hid bx
  have BY := Lib.hid by_
  have HQ := Lib.hid hq
  have K1 := Lib.hid k1
  have K2 := Lib.hid k2
  clear hbw3 br bx by_ hq k1 k2 HR1 HR2
  go_upto_if 25 with (fail)
  go_cut [5] (fun s5 wx => s5 = .int .i64 0 ∧ ∃ (t1 t2 : Bool) (B1 B2 : Option Addr) (m1 m2 d1 d2 : Nat) (X Y : Nat), Box2 wx g (.bool t1) (.slice B1 m1 d1) ∧ Box2 wx h (.bool t2) (.slice B2 m2 d2) ∧ Box2 wx r (.bool false) (.slice none 0 0) ∧ Below g w wx ∧
    Lim wx g B1 (limbs X) ∧ Lim wx g B2 (limbs Y) ∧ m1 = lc X ∧ m2 = lc Y ∧ Y ≤ X ∧ lc X ≤ 4096 ∧ signed t1 X + signed t2 Y = x + y ∧ (Y = 0 → t2 = false))
  case first =>
    by_cases hq0 : q < 0
    · go_wp2_with fail
      go_meet
      have hle := (HQ.out.1.1 hq0)
      refine ⟨rfl, s2, s1, A2, A1, l2, l1, c2, c1, y.natAbs, x.natAbs, BX.out.store.far (by omega), (BY.out.far (by omega)).store, (BR.out.far (by omega)).far (by omega), store2_below (store2_below HB.out (Nat.le_refl _)) (by omega), ((K2.out.setCell (p := ⟨g, 0, none⟩) (Nat.le_refl _) _).setCell (p := ⟨g, 1, none⟩) (Nat.le_refl _) _).setCell (p := ⟨h, 0, none⟩) (by show g ≤ h; omega) _ |>.setCell (p := ⟨h, 1, none⟩) (by show g ≤ h; omega) _,
        ((K1.out.setCell (p := ⟨g, 0, none⟩) (Nat.le_refl _) _).setCell (p := ⟨g, 1, none⟩) (Nat.le_refl _) _).setCell (p := ⟨h, 0, none⟩) (by show g ≤ h; omega) _ |>.setCell (p := ⟨h, 1, none⟩) (by show g ≤ h; omega) _, HL2.out, HL1.out, by omega, HY.out, ?_, fun h0 => ?_⟩
      · rw [← HS1.out, ← HS2.out, signed_of, signed_of]; omega
      · rw [← HS1.out]; exact decide_eq_false (by omega)
    · go_wp2_with fail
      go_meet
      have hle : ¬ x.natAbs < y.natAbs := fun h => by have := HQ.out.1.2 h; omega
      refine ⟨rfl, s1, s2, A1, A2, l1, l2, c1, c2, x.natAbs, y.natAbs, BX.out, BY.out, BR.out, HB.out, K1.out, K2.out, HL1.out, HL2.out, by omega, HX.out, ?_, fun h0 => ?_⟩
      · rw [← HS1.out, ← HS2.out, signed_of, signed_of]
      · rw [← HS2.out]; exact decide_eq_false (by omega)
  case rest =>
  clear bx by_ br k1 k2 HB BR BX BY HQ K1 K2 hsz3
  obtain ⟨rfl, t1, t2, B1, B2, m1, m2, d1, d2, X, Y, bx, by_, br, hbw, k1, k2, hm1, hm2, hYX, hXl, hsum, h0⟩ := hcut
  have hmI : (m1 : Int) ≤ 4096 := by omega
  have HM1 := Lib.hid hm1
  have HM2 := Lib.hid hm2
  have HYX := Lib.hid hYX
  have HS := Lib.hid hsum
  have H0 := Lib.hid h0
  have hszg := by_.lt
  have hszr := br.lt
  have hmk := make_limbs_succ m1 (by omega)
  have a0 := bx.cell0
  have a1 := bx.cell1
  have b0 := by_.cell0
  have b1 := by_.cell1
  have HML := Lib.hid (show m2 ≤ m1 by rw [hm1, hm2]; exact lc_mono hYX)
  clear hm1 hm2 hYX hXl hsum h0
  go_wp2_with fail
  refine (limb_behind B2 m2 d2 _).mono ?_
  rintro e w5 ⟨rfl, rfl⟩
  have hex : ∃ (W : World) (O C : Nat), (wc.alloc (.cells (madeCells #[.int .u64 0] (m1 + 1)) 85)).alloc (.cells #[.slice B2 m2 d2] 22) = W ∧ wc.heap.size = O ∧ (wc.alloc (.cells (madeCells #[.int .u64 0] (m1 + 1)) 85)).heap.size = C ∧ C = O + 1 ∧ W.heap.size = O + 2 ∧ Row W O (List.replicate (m1 + 1) 0) ∧ Fresh W O (some ⟨O, 0, none⟩) (m1 + 1) ∧ W.cell? ⟨C, 0, none⟩ = some (.slice B2 m2 d2) ∧ Below O wc W := by
    refine ⟨_, _, _, rfl, rfl, rfl, by simp, by simp, (Row.made wc (m1 + 1)).alloc _, (Fresh.made wc (m1 + 1)).below ((Below.refl _ _).alloc (Nat.le_refl _) _), ?_, ((Below.refl _ _).alloc (Nat.le_refl _) _).alloc (by simp) _⟩
    rw [cell_of_row _ _ 0 #[.slice B2 m2 d2] 22 (0, 0) (heap_alloc_new _ _)]
    rfl
  obtain ⟨W5, O, C, hW5, hO, hC, hCO, hsz5, hrow0, hfr0, hcC, hb5⟩ := hex
  rw [hW5, hO, hC]
  have bx5 := bx.below hb5 (by have := bx.lt; omega)
  have by5 := by_.below hb5 (by omega)
  have br5 := br.below hb5 (by omega)
  have k1 := k1.below (hb5.mono (by omega))
  have k2 := k2.below (hb5.mono (by omega))
  have hbw5 : Below g w W5 := hbw.trans (hb5.mono (by omega))
  have hgO : g + 3 ≤ O := by omega
  have HCO := Lib.hid hCO
  clear hCO hW5 hO hC bx by_ br hbw a0 a1 b0 b1 hb5 hmk
  have a0 := bx5.cell0
  have a1 := bx5.cell1
  have b0 := by5.cell0
  have b1 := by5.cell1
  have HBX := Lib.hid bx5
  have HBY := Lib.hid by5
  have HBR := Lib.hid br5
  have HBW := Lib.hid hbw5
  have hXs := small_limbs X
  have hYs := small_limbs Y
  have hXv := val_limbs X
  have hYv := val_limbs Y
  have hm1 : m1 = (limbs X).length := HM1.out
  have hm2 : m2 = (limbs Y).length := HM2.out
  generalize limbs X = xs at *
  generalize limbs Y = ys at *
  have HM1 := Lib.hid hm1
  have HM2 := Lib.hid hm2
  have HXV := Lib.hid hXv
  have HYV := Lib.hid hYv
  clear hm1 hm2 hXv hYv bx5 by5 br5 hbw5
  by_cases hs : t1 = t2
  · subst hs
    have tt : (t1 == t1) = true := by simp
    have HSG := Lib.hid (show signed t1 (X + Y) = x + y by rw [← HS.out, signed_add_same])
    go_wp2_with fail
    go_loopw [8, 39] (fun t6 t23 wr => ∃ (k c : Nat) (os : List Nat), k ≤ m1 ∧ c ≤ 1 ∧ os.length = m1 + 1 ∧ t6 = .int .u64 (c : Int) ∧ t23 = .int .i64 (k : Int) ∧ Row wr O os ∧ Fresh wr O (some ⟨O, 0, none⟩) (m1 + 1) ∧ (∀ p : Addr, p.block ≠ O → wr.cell? p = W5.cell? p) ∧ Below O W5 wr ∧ wr.heap.size = W5.heap.size ∧ wr.heap[r]? = W5.heap[r]? ∧ val (os.take k) + W64 ^ k * c = val (xs.take k) + val (ys.take k)) (fun _ t23 _ => m1 - (intOf t23).toNat)
    case atStart =>
      exact ⟨0, 0, List.replicate (m1 + 1) 0, by omega, by omega, by simp, rfl, rfl, hrow0, hfr0, fun _ _ => rfl, Below.refl _ _, rfl, rfl, by simp⟩
    case round =>
      clear a0 a1 b0 b1
      obtain ⟨k, c, os, hk, hc, ho, rfl, rfl, hrow, hfr, hkeep, hbel, hszw, hrr, hval⟩ := hrel
      have HV := Lib.hid hval
      have HO := Lib.hid ho
      have HK := Lib.hid hkeep
      have HRR := Lib.hid hrr
      have a0 := (hkeep ⟨g, 0, none⟩ (by show ¬ g = O; omega)).trans HBX.out.cell0
      have a1 := (hkeep ⟨g, 1, none⟩ (by show ¬ g = O; omega)).trans HBX.out.cell1
      have b0 := (hkeep ⟨h, 0, none⟩ (by show ¬ h = O; omega)).trans HBY.out.cell0
      have b1 := (hkeep ⟨h, 1, none⟩ (by show ¬ h = O; omega)).trans HBY.out.cell1
      have hcC' := (hkeep ⟨C, 0, none⟩ (by have := HCO.out; show ¬ C = O; omega)).trans hcC
      have hbelg : Below g W5 wr := hbel.mono (by omega)
      have HFR := Lib.hid hfr
      clear hval ho hkeep hrr hfr
      by_cases hlt : k < m1
      · obtain ⟨ad, hB1, hb, hcell⟩ := (k1.below hbelg).at_ (k := k) (by rw [← HM1.out]; exact hlt)
        subst hB1
        obtain ⟨x0, hx⟩ : ∃ x0, xs.getD k 0 = x0 := ⟨_, rfl⟩
        obtain ⟨y0, hy⟩ : ∃ y0, ys.getD k 0 = y0 := ⟨_, rfl⟩
        have hxs : x0 < W64 := hx ▸ hXs.getD k
        have hys : y0 < W64 := hy ▸ hYs.getD k
        rw [hx] at hcell
        have hcg := hrow.cell (k := k) (by rw [HO.out]; omega)
        have hfg := hrow.free k
        have HS := Lib.hid (show val ((os.set k (addLo x0 y0 c)).take (k + 1)) + W64 ^ (k + 1) * (addHi x0 y0 c) = val (xs.take (k + 1)) + val (ys.take (k + 1)) by
          have hV := HV.out
          have hs := add_split x0 y0 c
          rw [val_take_set os k _ (by rw [HO.out]; omega), val_take_step xs, val_take_step ys, hx, hy, Nat.pow_succ]
          generalize val (os.take k) = a1 at *
          generalize val (xs.take k) = a2 at *
          generalize val (ys.take k) = a3 at *
          generalize W64 ^ k = P at *
          have : P * (addLo x0 y0 c + W64 * addHi x0 y0 c) = P * (x0 + y0 + c) := by rw [hs]
          grind)
        have HXX := Lib.hid hx
        have HYY := Lib.hid hy
        have hset := hrow.set (k := k) (x := addLo x0 y0 c) (by rw [HO.out]; omega) (addLo_lt _ _ _)
        have hc' := addHi_le hxs hys hc
        have hbel' := hbel.setCell (p := ⟨O, k, none⟩) (Nat.le_refl _) (.int .u64 (addLo x0 y0 c : Int))
        have HL := Lib.hid (show (os.set k (addLo x0 y0 c)).length = m1 + 1 by rw [List.length_set, HO.out])
        have hrun := add64_run x0 y0 c hc
        have hlI : (k : Int) < (m1 : Int) := by omega
        have hklc : k < m1 + 1 := by omega
        have HKK := Lib.hid (fun (p : Addr) (hp : p.block ≠ O) => show (wr.setCell ⟨O, k, none⟩ (.int .u64 (addLo x0 y0 c : Int))).cell? p = W5.cell? p from (cell_of_block (Below.heap_setCell _ _ _ p.block (by simpa using hp))).trans (HK.out p hp))
        have HR2 := Lib.hid (show (wr.setCell ⟨O, k, none⟩ (.int .u64 (addLo x0 y0 c : Int))).heap[r]? = W5.heap[r]? from (Below.heap_setCell _ _ _ r (by show ¬ r = O; omega)).trans HRR.out)
        clear hx hy
        go_wp2_with fail
        refine (limb_behind1 k C m2 d2 B2 ys wr hcC' (k2.below hbelg) HM2.out (by have := HML.out; omega)).mono ?_
        rintro e w6 ⟨rfl, rfl⟩
        rw [HYY.out]
        go_wp2_with fail
        exact ⟨⟨k + 1, _, _, by omega, hc', HL.out, rfl, by go_num, hset, HFR.out.set _ _ _, HKK.out, hbel', by simpa using hszw, HR2.out, HS.out⟩, by simp [intOf]; omega⟩
      · obtain rfl : k = m1 := by omega
        have hcg := hrow.cell (k := k) (by rw [HO.out]; omega)
        have hfg := hrow.free k
        have hcW : c < W64 := by rw [W64_eq]; omega
        have hset := hrow.set (k := k) (x := c) (by rw [HO.out]; omega) hcW
        have hbel' := hbel.setCell (p := ⟨O, k, none⟩) (Nat.le_refl _) (.int .u64 (c : Int))
        have HL := Lib.hid (show (os.set k c).length = k + 1 by rw [List.length_set, HO.out])
        have HF := Lib.hid (show val (os.set k c) = X + Y by
          have hV := HV.out
          have e1 := val_take_set os k c (by rw [HO.out]; omega)
          rw [List.take_of_length_le (by rw [List.length_set, HO.out]; omega)] at e1
          rw [List.take_of_length_le (l := xs) (by rw [← HM1.out]; omega), List.take_of_length_le (l := ys) (by rw [← HM2.out]; exact HML.out), HXV.out, HYV.out] at hV
          omega)
        have hRR : Box2 (wr.setCell ⟨O, k, none⟩ (.int .u64 (c : Int))) r (.bool false) (.slice none 0 0) := by
          unfold Box2
          rw [Below.heap_setCell _ _ _ r (by show ¬ r = O; omega), HRR.out]
          exact HBR.out
        have HRW := Lib.hid hRR
        have hszc : (wr.setCell ⟨O, k, none⟩ (.int .u64 (c : Int))).heap.size = O + 2 := by simpa [hsz5] using hszw
        have hfresh : Fresh (wr.setCell ⟨O, k, none⟩ (.int .u64 (c : Int))) O (some ⟨O, 0, none⟩) (k + 1) := HFR.out.set _ _ _
        clear hRR
        go_wp2_with fail
        refine (limb_told' t1 (some ⟨O, 0, none⟩) (k + 1) (k + 1) O (os.set k c) (wr.setCell ⟨O, k, none⟩ (.int .u64 (c : Int))) (hset.lim (by omega)) hfresh HL.out.symm (Nat.le_refl _) (by omega)).mono ?_
        rintro e w7 ⟨v7, rfl, hv7, hb7⟩
        rw [HF.out, toldF_signed HSG.out] at hv7 ⊢
        obtain ⟨E, hE⟩ : ∃ E : Int, longE (x + y) = E := ⟨_, rfl⟩
        have HE := Lib.hid hE
        simp only [hE]
        clear hE
        obtain ⟨bv, Av, lv, cv, rfl, HV7⟩ := hv7.open
        clear hv7
        have br7 : Box2 w7 r (.bool false) (.slice none 0 0) := HRW.out.below hb7 HRW.out.lt
        have HBF := Lib.hid (show Below g w w7 from (HBW.out.trans (hbel'.mono (by omega))).trans (hb7.mono (by omega)))
        have HRL := Lib.hid (show r < O by omega)
        have d0 := br7.cell0
        have d1 := br7.cell1
        have fr := br7.free
        have HE7 := Lib.hid (HV7.out.ext (ext_store2 (a := .bool bv) (b := .slice Av lv cv) br7.nums) (fun i hi => by subst hi; exact HRL.out))
        clear hb7
        go_wp2_with fail
        refine bodyPost_ret (v := .tuple #[.agg #[.bool bv, (.slice Av lv cv)], (.int .i64 E)]) (by
          rw [results_cell_tmp rfl]
          have hld := run_loadVar_row (P := Tryz.prog) _ r 24 24 #[.bool bv, (.slice Av lv cv)] (0, 0) _ br7.store Tryz.underlying24 rfl (by kernel_rfl)
          simp [asAddr, Result.andThen, hld]) rfl ?_
        rw [HE.out]
        exact ⟨_, rfl, HE7.out.since (base' := w.heap.size) (by rw [HW.out]; omega), by rw [HW.out]; exact store2_below HBF.out (by omega)⟩
  · have tt : (t1 == t2) = false := by simpa using hs
    have HNE := Lib.hid hs
    clear hs
    by_cases hz : m2 = 0
    · have tz : ((m2 : Int) == 0) = true := by simp [hz]
      have hz := Lib.hid hz
      have HSG := Lib.hid (show signed t1 (X + Y) = x + y by
        have h1 : ys = [] := List.eq_nil_of_length_eq_zero (HM2.out.symm.trans hz.out)
        have h2 := HYV.out
        rw [h1] at h2
        have h3 : Y = 0 := h2.symm
        rw [← HS.out, h3]
        cases t2 <;> simp [signed])
      go_wp2_with fail
      go_loopw [8, 39] (fun t6 t23 wr => ∃ (k c : Nat) (os : List Nat), k ≤ m1 ∧ c ≤ 1 ∧ os.length = m1 + 1 ∧ t6 = .int .u64 (c : Int) ∧ t23 = .int .i64 (k : Int) ∧ Row wr O os ∧ Fresh wr O (some ⟨O, 0, none⟩) (m1 + 1) ∧ (∀ p : Addr, p.block ≠ O → wr.cell? p = W5.cell? p) ∧ Below O W5 wr ∧ wr.heap.size = W5.heap.size ∧ wr.heap[r]? = W5.heap[r]? ∧ val (os.take k) + W64 ^ k * c = val (xs.take k) + val (ys.take k)) (fun _ t23 _ => m1 - (intOf t23).toNat)
      case atStart =>
        exact ⟨0, 0, List.replicate (m1 + 1) 0, by omega, by omega, by simp, rfl, rfl, hrow0, hfr0, fun _ _ => rfl, Below.refl _ _, rfl, rfl, by simp⟩
      case round =>
        clear a0 a1 b0 b1
        obtain ⟨k, c, os, hk, hc, ho, rfl, rfl, hrow, hfr, hkeep, hbel, hszw, hrr, hval⟩ := hrel
        have HV := Lib.hid hval
        have HO := Lib.hid ho
        have HK := Lib.hid hkeep
        have HRR := Lib.hid hrr
        have a0 := (hkeep ⟨g, 0, none⟩ (by show ¬ g = O; omega)).trans HBX.out.cell0
        have a1 := (hkeep ⟨g, 1, none⟩ (by show ¬ g = O; omega)).trans HBX.out.cell1
        have b0 := (hkeep ⟨h, 0, none⟩ (by show ¬ h = O; omega)).trans HBY.out.cell0
        have b1 := (hkeep ⟨h, 1, none⟩ (by show ¬ h = O; omega)).trans HBY.out.cell1
        have hcC' := (hkeep ⟨C, 0, none⟩ (by have := HCO.out; show ¬ C = O; omega)).trans hcC
        have hbelg : Below g W5 wr := hbel.mono (by omega)
        have HFR := Lib.hid hfr
        clear hval ho hkeep hrr hfr
        by_cases hlt : k < m1
        · obtain ⟨ad, hB1, hb, hcell⟩ := (k1.below hbelg).at_ (k := k) (by rw [← HM1.out]; exact hlt)
          subst hB1
          obtain ⟨x0, hx⟩ : ∃ x0, xs.getD k 0 = x0 := ⟨_, rfl⟩
          obtain ⟨y0, hy⟩ : ∃ y0, ys.getD k 0 = y0 := ⟨_, rfl⟩
          have hxs : x0 < W64 := hx ▸ hXs.getD k
          have hys : y0 < W64 := hy ▸ hYs.getD k
          rw [hx] at hcell
          have hcg := hrow.cell (k := k) (by rw [HO.out]; omega)
          have hfg := hrow.free k
          have HS := Lib.hid (show val ((os.set k (addLo x0 y0 c)).take (k + 1)) + W64 ^ (k + 1) * (addHi x0 y0 c) = val (xs.take (k + 1)) + val (ys.take (k + 1)) by
            have hV := HV.out
            have hs := add_split x0 y0 c
            rw [val_take_set os k _ (by rw [HO.out]; omega), val_take_step xs, val_take_step ys, hx, hy, Nat.pow_succ]
            generalize val (os.take k) = a1 at *
            generalize val (xs.take k) = a2 at *
            generalize val (ys.take k) = a3 at *
            generalize W64 ^ k = P at *
            have : P * (addLo x0 y0 c + W64 * addHi x0 y0 c) = P * (x0 + y0 + c) := by rw [hs]
            grind)
          have HXX := Lib.hid hx
          have HYY := Lib.hid hy
          have hset := hrow.set (k := k) (x := addLo x0 y0 c) (by rw [HO.out]; omega) (addLo_lt _ _ _)
          have hc' := addHi_le hxs hys hc
          have hbel' := hbel.setCell (p := ⟨O, k, none⟩) (Nat.le_refl _) (.int .u64 (addLo x0 y0 c : Int))
          have HL := Lib.hid (show (os.set k (addLo x0 y0 c)).length = m1 + 1 by rw [List.length_set, HO.out])
          have hrun := add64_run x0 y0 c hc
          have hlI : (k : Int) < (m1 : Int) := by omega
          have hklc : k < m1 + 1 := by omega
          have HKK := Lib.hid (fun (p : Addr) (hp : p.block ≠ O) => show (wr.setCell ⟨O, k, none⟩ (.int .u64 (addLo x0 y0 c : Int))).cell? p = W5.cell? p from (cell_of_block (Below.heap_setCell _ _ _ p.block (by simpa using hp))).trans (HK.out p hp))
          have HR2 := Lib.hid (show (wr.setCell ⟨O, k, none⟩ (.int .u64 (addLo x0 y0 c : Int))).heap[r]? = W5.heap[r]? from (Below.heap_setCell _ _ _ r (by show ¬ r = O; omega)).trans HRR.out)
          clear hx hy
          go_wp2_with fail
          refine (limb_behind1 k C m2 d2 B2 ys wr hcC' (k2.below hbelg) HM2.out (by have := HML.out; omega)).mono ?_
          rintro e w6 ⟨rfl, rfl⟩
          rw [HYY.out]
          go_wp2_with fail
          exact ⟨⟨k + 1, _, _, by omega, hc', HL.out, rfl, by go_num, hset, HFR.out.set _ _ _, HKK.out, hbel', by simpa using hszw, HR2.out, HS.out⟩, by simp [intOf]; omega⟩
        · obtain rfl : k = m1 := by omega
          have hcg := hrow.cell (k := k) (by rw [HO.out]; omega)
          have hfg := hrow.free k
          have hcW : c < W64 := by rw [W64_eq]; omega
          have hset := hrow.set (k := k) (x := c) (by rw [HO.out]; omega) hcW
          have hbel' := hbel.setCell (p := ⟨O, k, none⟩) (Nat.le_refl _) (.int .u64 (c : Int))
          have HL := Lib.hid (show (os.set k c).length = k + 1 by rw [List.length_set, HO.out])
          have HF := Lib.hid (show val (os.set k c) = X + Y by
            have hV := HV.out
            have e1 := val_take_set os k c (by rw [HO.out]; omega)
            rw [List.take_of_length_le (by rw [List.length_set, HO.out]; omega)] at e1
            rw [List.take_of_length_le (l := xs) (by rw [← HM1.out]; omega), List.take_of_length_le (l := ys) (by rw [← HM2.out]; exact HML.out), HXV.out, HYV.out] at hV
            omega)
          have hRR : Box2 (wr.setCell ⟨O, k, none⟩ (.int .u64 (c : Int))) r (.bool false) (.slice none 0 0) := by
            unfold Box2
            rw [Below.heap_setCell _ _ _ r (by show ¬ r = O; omega), HRR.out]
            exact HBR.out
          have HRW := Lib.hid hRR
          have hszc : (wr.setCell ⟨O, k, none⟩ (.int .u64 (c : Int))).heap.size = O + 2 := by simpa [hsz5] using hszw
          have hfresh : Fresh (wr.setCell ⟨O, k, none⟩ (.int .u64 (c : Int))) O (some ⟨O, 0, none⟩) (k + 1) := HFR.out.set _ _ _
          clear hRR
          go_wp2_with fail
          refine (limb_told' t1 (some ⟨O, 0, none⟩) (k + 1) (k + 1) O (os.set k c) (wr.setCell ⟨O, k, none⟩ (.int .u64 (c : Int))) (hset.lim (by omega)) hfresh HL.out.symm (Nat.le_refl _) (by omega)).mono ?_
          rintro e w7 ⟨v7, rfl, hv7, hb7⟩
          rw [HF.out, toldF_signed HSG.out] at hv7 ⊢
          obtain ⟨E, hE⟩ : ∃ E : Int, longE (x + y) = E := ⟨_, rfl⟩
          have HE := Lib.hid hE
          simp only [hE]
          clear hE
          obtain ⟨bv, Av, lv, cv, rfl, HV7⟩ := hv7.open
          clear hv7
          have br7 : Box2 w7 r (.bool false) (.slice none 0 0) := HRW.out.below hb7 HRW.out.lt
          have HBF := Lib.hid (show Below g w w7 from (HBW.out.trans (hbel'.mono (by omega))).trans (hb7.mono (by omega)))
          have HRL := Lib.hid (show r < O by omega)
          have d0 := br7.cell0
          have d1 := br7.cell1
          have fr := br7.free
          have HE7 := Lib.hid (HV7.out.ext (ext_store2 (a := .bool bv) (b := .slice Av lv cv) br7.nums) (fun i hi => by subst hi; exact HRL.out))
          clear hb7
          go_wp2_with fail
          refine bodyPost_ret (v := .tuple #[.agg #[.bool bv, (.slice Av lv cv)], (.int .i64 E)]) (by
            rw [results_cell_tmp rfl]
            have hld := run_loadVar_row (P := Tryz.prog) _ r 24 24 #[.bool bv, (.slice Av lv cv)] (0, 0) _ br7.store Tryz.underlying24 rfl (by kernel_rfl)
            simp [asAddr, Result.andThen, hld]) rfl ?_
          rw [HE.out]
          exact ⟨_, rfl, HE7.out.since (base' := w.heap.size) (by rw [HW.out]; omega), by rw [HW.out]; exact store2_below HBF.out (by omega)⟩
    · have tz : ((m2 : Int) == 0) = false := beq_eq_false_iff_ne.2 (by omega)
      have HSG := Lib.hid (show signed t1 (X - Y) = x + y by rw [← HS.out, signed_add_ge tt HYX.out])
      clear hz
      go_wp2_with fail
      go_loopw [8, 39] (fun t6 t23 wr => ∃ (k c : Nat) (os : List Nat), k ≤ m1 ∧ c ≤ 1 ∧ os.length = m1 + 1 ∧ t6 = .int .u64 (c : Int) ∧ t23 = .int .i64 (k : Int) ∧ Row wr O os ∧ Fresh wr O (some ⟨O, 0, none⟩) (m1 + 1) ∧ (∀ p : Addr, p.block ≠ O → wr.cell? p = W5.cell? p) ∧ Below O W5 wr ∧ wr.heap.size = W5.heap.size ∧ wr.heap[r]? = W5.heap[r]? ∧ val (os.take k) + val (ys.take k) = val (xs.take k) + W64 ^ k * c) (fun _ t23 _ => m1 - (intOf t23).toNat)
      case atStart =>
        exact ⟨0, 0, List.replicate (m1 + 1) 0, by omega, by omega, by simp, rfl, rfl, hrow0, hfr0, fun _ _ => rfl, Below.refl _ _, rfl, rfl, by simp⟩
      case round =>
        clear a0 a1 b0 b1
        obtain ⟨k, c, os, hk, hc, ho, rfl, rfl, hrow, hfr, hkeep, hbel, hszw, hrr, hval⟩ := hrel
        have HV := Lib.hid hval
        have HO := Lib.hid ho
        have HK := Lib.hid hkeep
        have HRR := Lib.hid hrr
        have a0 := (hkeep ⟨g, 0, none⟩ (by show ¬ g = O; omega)).trans HBX.out.cell0
        have a1 := (hkeep ⟨g, 1, none⟩ (by show ¬ g = O; omega)).trans HBX.out.cell1
        have b0 := (hkeep ⟨h, 0, none⟩ (by show ¬ h = O; omega)).trans HBY.out.cell0
        have b1 := (hkeep ⟨h, 1, none⟩ (by show ¬ h = O; omega)).trans HBY.out.cell1
        have hcC' := (hkeep ⟨C, 0, none⟩ (by have := HCO.out; show ¬ C = O; omega)).trans hcC
        have hbelg : Below g W5 wr := hbel.mono (by omega)
        have HFR := Lib.hid hfr
        clear hval ho hkeep hrr hfr
        by_cases hlt : k < m1
        · obtain ⟨ad, hB1, hb, hcell⟩ := (k1.below hbelg).at_ (k := k) (by rw [← HM1.out]; exact hlt)
          subst hB1
          obtain ⟨x0, hx⟩ : ∃ x0, xs.getD k 0 = x0 := ⟨_, rfl⟩
          obtain ⟨y0, hy⟩ : ∃ y0, ys.getD k 0 = y0 := ⟨_, rfl⟩
          have hxs : x0 < W64 := hx ▸ hXs.getD k
          have hys : y0 < W64 := hy ▸ hYs.getD k
          rw [hx] at hcell
          have hcg := hrow.cell (k := k) (by rw [HO.out]; omega)
          have hfg := hrow.free k
          have HS := Lib.hid (show val ((os.set k (subLo x0 y0 c)).take (k + 1)) + val (ys.take (k + 1)) = val (xs.take (k + 1)) + W64 ^ (k + 1) * (subHi x0 y0 c) by
            have hV := HV.out
            have hs := sub_split hxs hys hc
            rw [val_take_set os k _ (by rw [HO.out]; omega), val_take_step xs, val_take_step ys, hx, hy, Nat.pow_succ]
            generalize val (os.take k) = a1 at *
            generalize val (xs.take k) = a2 at *
            generalize val (ys.take k) = a3 at *
            generalize W64 ^ k = P at *
            have : P * (subLo x0 y0 c + y0 + c) = P * (x0 + W64 * subHi x0 y0 c) := by rw [hs]
            grind)
          have HXX := Lib.hid hx
          have HYY := Lib.hid hy
          have hset := hrow.set (k := k) (x := subLo x0 y0 c) (by rw [HO.out]; omega) (subLo_lt _ _ _)
          have hc' := subHi_le x0 y0 c
          have hbel' := hbel.setCell (p := ⟨O, k, none⟩) (Nat.le_refl _) (.int .u64 (subLo x0 y0 c : Int))
          have HL := Lib.hid (show (os.set k (subLo x0 y0 c)).length = m1 + 1 by rw [List.length_set, HO.out])
          have hrun := sub64_run x0 y0 c hc
          have hlI : (k : Int) < (m1 : Int) := by omega
          have hklc : k < m1 + 1 := by omega
          have HKK := Lib.hid (fun (p : Addr) (hp : p.block ≠ O) => show (wr.setCell ⟨O, k, none⟩ (.int .u64 (subLo x0 y0 c : Int))).cell? p = W5.cell? p from (cell_of_block (Below.heap_setCell _ _ _ p.block (by simpa using hp))).trans (HK.out p hp))
          have HR2 := Lib.hid (show (wr.setCell ⟨O, k, none⟩ (.int .u64 (subLo x0 y0 c : Int))).heap[r]? = W5.heap[r]? from (Below.heap_setCell _ _ _ r (by show ¬ r = O; omega)).trans HRR.out)
          clear hx hy
          go_wp2_with fail
          refine (limb_behind1 k C m2 d2 B2 ys wr hcC' (k2.below hbelg) HM2.out (by have := HML.out; omega)).mono ?_
          rintro e w6 ⟨rfl, rfl⟩
          rw [HYY.out]
          go_wp2_with fail
          exact ⟨⟨k + 1, _, _, by omega, hc', HL.out, rfl, by go_num, hset, HFR.out.set _ _ _, HKK.out, hbel', by simpa using hszw, HR2.out, HS.out⟩, by simp [intOf]; omega⟩
        · obtain rfl : k = m1 := by omega
          have hcg := hrow.cell (k := k) (by rw [HO.out]; omega)
          have hfg := hrow.free k
          have hcW : c < W64 := by rw [W64_eq]; omega
          have hset := hrow.set (k := k) (x := c) (by rw [HO.out]; omega) hcW
          have hbel' := hbel.setCell (p := ⟨O, k, none⟩) (Nat.le_refl _) (.int .u64 (c : Int))
          have HL := Lib.hid (show (os.set k c).length = k + 1 by rw [List.length_set, HO.out])
          have HF := Lib.hid (show val (os.set k c) = X - Y by
            have hV := HV.out
            have e1 := val_take_set os k c (by rw [HO.out]; omega)
            rw [List.take_of_length_le (by rw [List.length_set, HO.out]; omega)] at e1
            rw [List.take_of_length_le (l := xs) (by rw [← HM1.out]; omega), List.take_of_length_le (l := ys) (by rw [← HM2.out]; exact HML.out), HXV.out, HYV.out] at hV
            have hlt := val_lt (hrow.small.take k)
            rw [List.length_take, Nat.min_eq_left (by rw [HO.out]; omega)] at hlt
            have hyx := HYX.out
            have hc0 : c = 0 := by
              rcases Nat.eq_zero_or_pos c with h0 | h0
              · exact h0
              · have := Nat.le_mul_of_pos_right (W64 ^ k) h0
                omega
            subst hc0
            omega)
          have hRR : Box2 (wr.setCell ⟨O, k, none⟩ (.int .u64 (c : Int))) r (.bool false) (.slice none 0 0) := by
            unfold Box2
            rw [Below.heap_setCell _ _ _ r (by show ¬ r = O; omega), HRR.out]
            exact HBR.out
          have HRW := Lib.hid hRR
          have hszc : (wr.setCell ⟨O, k, none⟩ (.int .u64 (c : Int))).heap.size = O + 2 := by simpa [hsz5] using hszw
          have hfresh : Fresh (wr.setCell ⟨O, k, none⟩ (.int .u64 (c : Int))) O (some ⟨O, 0, none⟩) (k + 1) := HFR.out.set _ _ _
          clear hRR
          go_wp2_with fail
          refine (limb_told' t1 (some ⟨O, 0, none⟩) (k + 1) (k + 1) O (os.set k c) (wr.setCell ⟨O, k, none⟩ (.int .u64 (c : Int))) (hset.lim (by omega)) hfresh HL.out.symm (Nat.le_refl _) (by omega)).mono ?_
          rintro e w7 ⟨v7, rfl, hv7, hb7⟩
          rw [HF.out, toldF_signed HSG.out] at hv7 ⊢
          obtain ⟨E, hE⟩ : ∃ E : Int, longE (x + y) = E := ⟨_, rfl⟩
          have HE := Lib.hid hE
          simp only [hE]
          clear hE
          obtain ⟨bv, Av, lv, cv, rfl, HV7⟩ := hv7.open
          clear hv7
          have br7 : Box2 w7 r (.bool false) (.slice none 0 0) := HRW.out.below hb7 HRW.out.lt
          have HBF := Lib.hid (show Below g w w7 from (HBW.out.trans (hbel'.mono (by omega))).trans (hb7.mono (by omega)))
          have HRL := Lib.hid (show r < O by omega)
          have d0 := br7.cell0
          have d1 := br7.cell1
          have fr := br7.free
          have HE7 := Lib.hid (HV7.out.ext (ext_store2 (a := .bool bv) (b := .slice Av lv cv) br7.nums) (fun i hi => by subst hi; exact HRL.out))
          clear hb7
          go_wp2_with fail
          refine bodyPost_ret (v := .tuple #[.agg #[.bool bv, (.slice Av lv cv)], (.int .i64 E)]) (by
            rw [results_cell_tmp rfl]
            have hld := run_loadVar_row (P := Tryz.prog) _ r 24 24 #[.bool bv, (.slice Av lv cv)] (0, 0) _ br7.store Tryz.underlying24 rfl (by kernel_rfl)
            simp [asAddr, Result.andThen, hld]) rfl ?_
          rw [HE.out]
          exact ⟨_, rfl, HE7.out.since (base' := w.heap.size) (by rw [HW.out]; omega), by rw [HW.out]; exact store2_below HBF.out (by omega)⟩
end Go.Proofs.YtonbhpadoplpkaaGreat
/- The package limb, on: Sub, Of. -/
namespace Go.Proofs.YtonbhpadoplpkaaGreat
open Go.RowKit Go.Deep
theorem lc_neg {z : Int} (h : lc z.natAbs ≤ 4096) : lc (-z).natAbs ≤ 4096 := by rwa [Int.natAbs_neg]
set_option maxRecDepth 100000 in
theorem limb_Sub (u v : Value) (x y : Int) (w : World) (hx : IntV w u x) (hy : IntV w v y) (lx : lc x.natAbs ≤ 4096) (ly : lc y.natAbs ≤ 4096) :
    Calls Tryz.prog 47 #[u, v] w fun e w' => ∃ v', e = .returned (.tuple #[v', .int .i64 (longE (x - y))]) ∧ RawAt w' w.heap.size v' (longR (x - y)) ∧ Below w.heap.size w w' := by
  obtain ⟨s1, A1, l1, c1, rfl, HU⟩ := hx.open
  obtain ⟨s2, A2, l2, c2, rfl, HV⟩ := hy.open
  have LX := Lib.hid lx
  have LY := Lib.hid ly
  clear hx hy lx ly
  go_enter Tryz.func47, Tryz.ntmps47
  go_wp2_with fail
  obtain ⟨W0, g, h, r, hW, hg, hh, hr, hgr, bx, by_, br, hbw, hsz⟩ := box_three w (.bool s1) (.slice A1 l1 c1) (.bool s2) (.slice A2 l2 c2) (.bool false) (.slice none 0 0)
  have HW := Lib.hid (show w.heap.size = g from hg)
  rw [hW, hr, hh, hg]
  have HBW := Lib.hid hbw
  have HBWS := Lib.hid (show Below w.heap.size w W0 from by rw [hg]; exact hbw)
  clear hW hr hg hh hbw
  refine (limb_Neg _ y W0 (HV.out.below HBWS.out) LY.out).mono ?_
  rintro e w1 ⟨v1, rfl, hv1, hb1⟩
  obtain ⟨b1, B1, m1, d1, rfl, HV1⟩ := hv1.open
  have hbA : Below w1.heap.size w1 (w1.alloc (.cells #[.bool b1, .slice B1 m1 d1] 24)) := (Below.refl _ _).alloc (Nat.le_refl _) _
  have hb1A : Below W0.heap.size W0 (w1.alloc (.cells #[.bool b1, .slice B1 m1 d1] 24)) := hb1.trans (hbA.mono hb1.size)
  have bc : Box2 (w1.alloc (.cells #[.bool b1, .slice B1 m1 d1] 24)) w1.heap.size (.bool b1) (.slice B1 m1 d1) := heap_alloc_new w1 _
  have bx := bx.below hb1A bx.lt
  have br := br.below hb1A br.lt
  have HU2 := Lib.hid (((HU.out.below HBWS.out).below hb1A))
  have HV2 := Lib.hid (HV1.out.int.below hbA)
  have hszr := br.lt
  have HBW2 := Lib.hid (HBW.out.trans (hb1A.mono (by omega)))
  have a0 := bx.cell0
  have a1 := bx.cell1
  have e0 := bc.cell0
  have e1 := bc.cell1
  clear hv1
  go_wp2_with fail
  refine (limb_Add _ _ x (-y) _ HU2.out HV2.out LX.out (lc_neg LY.out)).mono ?_
  rintro e w3 ⟨v3, rfl, hv3, hb3⟩
  rw [← Int.sub_eq_add_neg] at hv3 ⊢
  obtain ⟨E, hE⟩ : ∃ E : Int, longE (x - y) = E := ⟨_, rfl⟩
  have HE := Lib.hid hE
  rw [hE]
  clear hE
  obtain ⟨b3, B3, m3, d3, rfl, HV3⟩ := hv3.open
  have br3 := br.below hb3 br.lt
  have HB3 := Lib.hid (HBW2.out.trans (hb3.mono (by omega)))
  have HR := Lib.hid (HV3.out.ext (ext_store2 (a := .bool b3) (b := .slice B3 m3 d3) br3.nums) (fun i hi => by subst hi; exact hszr))
  have d0 := br3.cell0
  have d1' := br3.cell1
  have fr := br3.free
  have HSZ := Lib.hid (show g ≤ (w1.alloc (.cells #[.bool b1, .slice B1 m1 d1] 24)).heap.size by omega)
  clear hv3 hb3 hb1 hbA hb1A a0 a1 e0 e1 hszr
  go_wp2_with fail
  refine bodyPost_ret (v := .tuple #[.agg #[.bool b3, (.slice B3 m3 d3)], (.int .i64 E)]) (by
    rw [results_cell_tmp rfl]
    have hld := run_loadVar_row (P := Tryz.prog) _ r 24 24 #[.bool b3, (.slice B3 m3 d3)] (0, 0) _ br3.store Tryz.underlying24 rfl (by kernel_rfl)
    simp [asAddr, Result.andThen, hld]) rfl ?_
  rw [HE.out]
  exact ⟨_, rfl, HR.out.since (base' := w.heap.size) (by rw [HW.out]; exact HSZ.out), by rw [HW.out]; exact store2_below HB3.out (by omega)⟩
set_option maxRecDepth 100000 in
theorem limb_Of (n : Int) (w : World) (h1 : -9223372036854775808 ≤ n) (h2 : n < 9223372036854775808) :
    Calls Tryz.prog 48 #[.int .i64 n] w fun e w' => ∃ v', e = .returned v' ∧ RawAt w' w.heap.size v' (rawOf n) ∧ Below w.heap.size w w' := by
  by_cases hn : n < 0
  · obtain ⟨k, hk⟩ : ∃ k : Nat, n = -(k : Int) := ⟨n.natAbs, by omega⟩
    have HK := Lib.hid hk
    obtain ⟨r, e1, e2⟩ := wrap_minus (k := k) (by omega) (by omega)
    rw [← hk] at e1
    have HW := Lib.hid (show k < W64 by rw [W64_eq]; omega)
    have HN := Lib.hid hn
    clear hk h1 h2
    go_enter Tryz.func48, Tryz.ntmps48
    go_wp2_with fail
    have HSG := Lib.hid (show signed true k = n by rw [HK.out]; rfl)
    have hex : ∃ (W : World) (g h : Nat), (w.alloc (.cells #[.bool false, .slice none 0 0] 24)).alloc (.cells #[.int .u64 (k : Int)] 85) = W ∧ w.heap.size = g ∧ w.heap.size + 1 = h ∧ W.heap.size = g + 2 ∧ h = g + 1 ∧ Box2 W g (.bool false) (.slice none 0 0) ∧ Lim W (g + 2) (some ⟨h, 0, none⟩) [k] ∧ Fresh W (g + 1) (some ⟨h, 0, none⟩) 1 ∧ Below g w W := by
      refine ⟨_, _, _, rfl, rfl, rfl, by simp, rfl, ?_, ?_, ?_, ((Below.refl _ _).alloc (Nat.le_refl _) _).alloc (by simp) _⟩
      · unfold Box2
        rw [Below.heap_alloc _ _ _ (by simp)]; exact heap_alloc_new w _
      · have h1 := Lim.one (w := w.alloc (.cells #[.bool false, .slice none 0 0] 24)) HW.out
        simpa using h1
      · have h1 := heap_alloc_new (w.alloc (.cells #[.bool false, .slice none 0 0] 24)) (.cells #[.int .u64 (k : Int)] 85)
        exact .inr ⟨_, _, rfl, Nat.le_refl _, by simpa using h1, by simp⟩
    obtain ⟨W1, g, h, hW1, hg, hh, hsz, hhg, bx, hlim, hfr, hbw⟩ := hex
    rw [hW1, hh]
    have HG := Lib.hid hg
    have HHG := Lib.hid hhg
    rw [hg]
    clear hW1 hh hg hhg
    refine (limb_told' true (some ⟨h, 0, none⟩) 1 1 (g + 1) [k] W1 (by rw [hsz]; exact hlim) hfr rfl (Nat.le_refl _) (by omega)).mono ?_
    rintro e w2 ⟨v2, rfl, hv, hb2⟩
    have e3 : val [k] = k := by simp
    rw [e3, toldF_signed HSG.out] at hv ⊢
    have HLN := Lib.hid (show lc (n).natAbs ≤ 4096 by
      have h1 : (n).natAbs = k := by rw [← HSG.out, signed_natAbs]
      rw [h1]
      exact Nat.le_trans (lc_limb HW.out) (by omega))
    rw [longR_ok HLN.out, longE_ok HLN.out] at hv
    rw [longE_ok HLN.out, longR_ok HLN.out]
    obtain ⟨bv, Av, lv, cv, rfl, HV⟩ := hv.open
    have bx2 := bx.below hb2 bx.lt
    have HB := Lib.hid (show Below g w w2 from hbw.trans (hb2.mono (by omega)))
    have hbA : Below w2.heap.size w2 (w2.alloc (.cells #[.bool bv, .slice Av lv cv] 24)) := (Below.refl _ _).alloc (Nat.le_refl _) _
    have bxA := bx2.below hbA bx2.lt
    have HE := Lib.hid ((HV.out.below hbA).ext (ext_store2 (a := .bool bv) (b := .slice Av lv cv) bxA.nums) (fun i hi => by subst hi; omega))
    have HBA := Lib.hid (HB.out.trans (hbA.mono (by have := hb2.size; omega)))
    have d0 := bxA.cell0
    have d1 := bxA.cell1
    have fr := bxA.free
    clear hv hb2 hbw hlim hfr hbA
    go_wp2_with fail
    refine bodyPost_ret (results_cell_row rfl _ _ g 24 #[.bool bv, (.slice Av lv cv)] (0, 0) _ (by rfl) bxA.store Tryz.underlying24 rfl (by kernel_rfl)) rfl ?_
    exact ⟨_, rfl, HE.out.since (base' := w.heap.size) (by rw [HG.out]; omega), by rw [HG.out]; exact store2_below HBA.out (Nat.le_refl _)⟩
  · obtain ⟨k, hk⟩ : ∃ k : Nat, n = (k : Int) := ⟨n.natAbs, by omega⟩
    have e1 := wrap_plus (k := k) (by omega)
    subst hk
    have HW := Lib.hid (show k < W64 by rw [W64_eq]; omega)
    clear h1 h2
    go_enter Tryz.func48, Tryz.ntmps48
    go_wp2_with fail
    have HSG := Lib.hid (show signed false k = (k : Int) from rfl)
    have hex : ∃ (W : World) (g h : Nat), (w.alloc (.cells #[.bool false, .slice none 0 0] 24)).alloc (.cells #[.int .u64 (k : Int)] 85) = W ∧ w.heap.size = g ∧ w.heap.size + 1 = h ∧ W.heap.size = g + 2 ∧ h = g + 1 ∧ Box2 W g (.bool false) (.slice none 0 0) ∧ Lim W (g + 2) (some ⟨h, 0, none⟩) [k] ∧ Fresh W (g + 1) (some ⟨h, 0, none⟩) 1 ∧ Below g w W := by
      refine ⟨_, _, _, rfl, rfl, rfl, by simp, rfl, ?_, ?_, ?_, ((Below.refl _ _).alloc (Nat.le_refl _) _).alloc (by simp) _⟩
      · unfold Box2
        rw [Below.heap_alloc _ _ _ (by simp)]; exact heap_alloc_new w _
      · have h1 := Lim.one (w := w.alloc (.cells #[.bool false, .slice none 0 0] 24)) HW.out
        simpa using h1
      · have h1 := heap_alloc_new (w.alloc (.cells #[.bool false, .slice none 0 0] 24)) (.cells #[.int .u64 (k : Int)] 85)
        exact .inr ⟨_, _, rfl, Nat.le_refl _, by simpa using h1, by simp⟩
    obtain ⟨W1, g, h, hW1, hg, hh, hsz, hhg, bx, hlim, hfr, hbw⟩ := hex
    rw [hW1, hh]
    have HG := Lib.hid hg
    have HHG := Lib.hid hhg
    rw [hg]
    clear hW1 hh hg hhg
    refine (limb_told' false (some ⟨h, 0, none⟩) 1 1 (g + 1) [k] W1 (by rw [hsz]; exact hlim) hfr rfl (Nat.le_refl _) (by omega)).mono ?_
    rintro e w2 ⟨v2, rfl, hv, hb2⟩
    have e3 : val [k] = k := by simp
    rw [e3, toldF_signed HSG.out] at hv ⊢
    have HLN := Lib.hid (show lc ((k : Int)).natAbs ≤ 4096 by
      have h1 : ((k : Int)).natAbs = k := by rw [← HSG.out, signed_natAbs]
      rw [h1]
      exact Nat.le_trans (lc_limb HW.out) (by omega))
    rw [longR_ok HLN.out, longE_ok HLN.out] at hv
    rw [longE_ok HLN.out, longR_ok HLN.out]
    obtain ⟨bv, Av, lv, cv, rfl, HV⟩ := hv.open
    have bx2 := bx.below hb2 bx.lt
    have HB := Lib.hid (show Below g w w2 from hbw.trans (hb2.mono (by omega)))
    have hbA : Below w2.heap.size w2 (w2.alloc (.cells #[.bool bv, .slice Av lv cv] 24)) := (Below.refl _ _).alloc (Nat.le_refl _) _
    have bxA := bx2.below hbA bx2.lt
    have HE := Lib.hid ((HV.out.below hbA).ext (ext_store2 (a := .bool bv) (b := .slice Av lv cv) bxA.nums) (fun i hi => by subst hi; omega))
    have HBA := Lib.hid (HB.out.trans (hbA.mono (by have := hb2.size; omega)))
    have d0 := bxA.cell0
    have d1 := bxA.cell1
    have fr := bxA.free
    clear hv hb2 hbw hlim hfr hbA
    go_wp2_with fail
    refine bodyPost_ret (results_cell_row rfl _ _ g 24 #[.bool bv, (.slice Av lv cv)] (0, 0) _ (by rfl) bxA.store Tryz.underlying24 rfl (by kernel_rfl)) rfl ?_
    exact ⟨_, rfl, HE.out.since (base' := w.heap.size) (by rw [HG.out]; omega), by rw [HG.out]; exact store2_below HBA.out (Nat.le_refl _)⟩
end Go.Proofs.YtonbhpadoplpkaaGreat
/- The package divide: divide, wrong, Trunc, Floor, Exact, Mod. -/
namespace Go.Proofs.YtonbhpadoplpkaaGreat
open Go.RowKit Go.Deep
theorem Own.part {w : World} {base : Nat} {A : Option Addr} {l c : Nat} {xs : List Nat} (h : Own w base (.slice A l c) xs) (hl : xs.length ≤ 1099511627776) : Part w base (.slice A l c) (val xs) := by
  obtain ⟨A', c', hv, hc, hlim, _⟩ := h.form
  injection hv with e1 e2 e3
  subst e1 e2 e3
  exact ⟨_, _, xs, rfl, hc, hl, hlim, h.fresh, rfl⟩
theorem lc_lt_of {m n : Nat} (h : (limbs m).length < (limbs n).length) : m < n := by
  rcases Nat.lt_or_ge m n with h1 | h1
  · exact h1
  · have := limbs_mono h1
    omega
set_option maxRecDepth 100000 in
theorem divide_divide (A1 A2 : Option Addr) (c1 c2 m n l1 l2 : Nat) (w : World) (h1 : Lim w w.heap.size A1 (limbs m)) (h2 : Lim w w.heap.size A2 (limbs n)) (e1 : l1 = (limbs m).length) (e2 : l2 = (limbs n).length) (hl1 : l1 ≤ 4096) (hl2 : l2 ≤ 4096) (hc1 : l1 ≤ c1) (hn : n ≠ 0) (hg : l2 ≤ 1200 ∨ l1 ≤ l2 + 800) :
    Calls Tryz.prog 50 #[.slice A1 l1 c1, .slice A2 l2 c2] w fun e w' => ∃ u v, e = .returned (.tuple #[u, v]) ∧ Part w' w.heap.size u (m / n) ∧ Part w' w.heap.size v (m % n) ∧ Sep u v ∧ Below w.heap.size w w' := by
  have hl1I : (l1 : Int) ≤ 4096 := by omega
  have hl2I : (l2 : Int) ≤ 4096 := by omega
  have H1 := Lib.hid h1
  have H2 := Lib.hid h2
  have E1 := Lib.hid e1
  have E2 := Lib.hid e2
  have HC1 := Lib.hid hc1
  have HN := Lib.hid hn
  have HL1 := Lib.hid hl1
  have HL2 := Lib.hid hl2
  have l20 : 0 < l2 := by
    rcases Nat.eq_zero_or_pos l2 with h | h
    · exact absurd (limbs_eq_nil.1 (List.eq_nil_of_length_eq_zero (by omega))) hn
    · exact h
  by_cases hlt : l1 < l2
  · have hltI : (l1 : Int) < (l2 : Int) := by omega
    have HLT := Lib.hid hlt
    clear h1 h2 e1 e2 hc1 hn hl1 hl2 hlt hg l20
    go_enter Tryz.func50, Tryz.ntmps50
    have HO : Own (w.alloc (.cells #[] 85)) w.heap.size (.slice (some ⟨w.heap.size, 0, none⟩) 0 0) [] := by
      have h := Own.made w w.heap.size 0 0 (Nat.le_refl _) (Nat.le_refl _) (by omega)
      rwa [show madeCells #[.int .u64 0] 0 = #[] by simp [madeCells]] at h
    have HB : Below w.heap.size w (w.alloc (.cells #[] 85)) := (Below.refl _ _).alloc (Nat.le_refl _) _
    go_wp2_with (at_builtin; refine append_lim (w0 := w) w.heap.size rfl _ _ rfl _ [] A1 l1 c1 (limbs m) (by rfl) (by rfl) E1.out (H1.out.below HB) HO HB HB.size (by have := HL1.out; have := E1.out; simp; omega) fun v1 w1 hown hbel hgrow _ => ?_)
    obtain ⟨A, k, c, rfl⟩ := hown.slice
    go_wp2_with fail
    go_ret2
    have hmn := lc_lt_of (m := m) (n := n) (by rw [← E1.out, ← E2.out]; exact HLT.out)
    refine ⟨_, _, rfl, ?_, ?_, Sep.nil _, hbel⟩
    · rw [Nat.div_eq_of_lt hmn]; exact Part.nil _ _
    · rw [Nat.mod_eq_of_lt hmn]
      have h := Own.part (by simpa using hown) (xs := limbs m) (by have := HL1.out; have := E1.out; omega)
      rwa [val_limbs] at h
  · have hltI : ¬ (l1 : Int) < (l2 : Int) := by omega
    by_cases h21 : l2 = 1
    · subst h21
      obtain ⟨ad, rfl, hb, hcell⟩ := h2.at_ (k := 0) (by omega)
      obtain ⟨d, hd⟩ : ∃ d, (limbs n).getD 0 0 = d := ⟨_, rfl⟩
      have hdn : d = n := by
        have h3 := val_limbs n
        rcases hx : limbs n with _ | ⟨x, xs⟩
        · rw [hx] at e2; simp at e2
        · rw [hx] at e2 h3 hd
          have : xs = [] := by simpa using e2.symm
          subst this
          simp [val] at h3 hd
          omega
      have hdW : d < W64 := hd ▸ h2.small.getD 0
      rw [hd] at hcell
      rw [hdn] at hcell hdW
      rw [show ad.add 0 = ad from rfl] at hcell
      replace hltI : ¬ (l1 : Int) < 1 := by omega
      have HDW := Lib.hid hdW
      clear h1 h2 e1 e2 hc1 hn hl1 hl2 hlt hg l20 hd hdn hdW
      go_enter Tryz.func50, Tryz.ntmps50
      go_wp2_with fail
      have C := divide_short A1 c1 (limbs m) n w (Nat.le_refl _) H1.out (by have := HL1.out; have := E1.out; omega) HDW.out (by have := HN.out; omega)
      rw [← E1.out, val_limbs] at C
      refine C.mono ?_
      rintro e w1 ⟨u, v, rfl, hu, hv, hs, hb1⟩
      have HU := Lib.hid hu
      have HV := Lib.hid hv
      have HS := Lib.hid hs
      clear C hu hv hs
      go_wp2_with fail
      go_ret2
      exact ⟨_, _, rfl, HU.out, HV.out, HS.out, hb1⟩
    · have h21I : ((l2 : Int) == 1) = false := beq_eq_false_iff_ne.2 (by omega)
      have C := divide_long A1 A2 c1 c2 (l1 - l2) (l2 - 2) (limbs m) (limbs n) w h1 h2 (by omega) (by omega) (by omega) (by
        have h3 := norm_limbs n
        rcases h3 with h3 | h3
        · rw [h3] at e2; simp at e2; omega
        · rw [show l2 - 2 + 1 = (limbs n).length - 1 by omega]; exact h3)
      rw [← e1, ← e2, val_limbs, val_limbs] at C
      have HCC := Lib.hid C
      have hq : ((l2 : Int) ≤ 1200) ∨ (1200 < (l2 : Int) ∧ (l1 : Int) - (l2 : Int) ≤ 800) := by omega
      clear h1 h2 e1 e2 hc1 hn hl1 hl2 hlt hg l20 h21 C
      rcases hq with hq | ⟨hq1, hq2⟩
      · go_enter Tryz.func50, Tryz.ntmps50
        go_wp2_with fail
        refine HCC.out.mono ?_
        rintro e w1 ⟨u, v, rfl, hu, hv, hs, hb1⟩
        have HU := Lib.hid hu
        have HV := Lib.hid hv
        have HS := Lib.hid hs
        clear hu hv hs
        go_wp2_with fail
        go_ret2
        exact ⟨_, _, rfl, HU.out, HV.out, HS.out, hb1⟩
      · go_enter Tryz.func50, Tryz.ntmps50
        go_wp2_with fail
        refine HCC.out.mono ?_
        rintro e w1 ⟨u, v, rfl, hu, hv, hs, hb1⟩
        have HU := Lib.hid hu
        have HV := Lib.hid hv
        have HS := Lib.hid hs
        clear hu hv hs
        go_wp2_with fail
        go_ret2
        exact ⟨_, _, rfl, HU.out, HV.out, HS.out, hb1⟩
end Go.Proofs.YtonbhpadoplpkaaGreat
/- The package divide: wrong, Trunc, Floor, Exact, Mod. -/
namespace Go.Proofs.YtonbhpadoplpkaaGreat
open Go.RowKit Go.Deep
theorem boxH4 (w : World) (x y x' y' x2 y2 x3 y3 : Value) : ∃ W g h r q, (((w.alloc (.cells #[x, y] 24)).alloc (.cells #[x', y'] 24)).alloc (.cells #[x2, y2] 24)).alloc (.cells #[x3, y3] 24) = W ∧ w.heap.size = g ∧ w.heap.size + 1 = h ∧ w.heap.size + 1 + 1 = r ∧ w.heap.size + 1 + 1 + 1 = q ∧
    Hid (Box2 W g x y) ∧ Hid (Box2 W h x' y') ∧ Hid (Box2 W r x2 y2) ∧ Hid (Box2 W q x3 y3) ∧ Hid (w.heap.size = g ∧ g + 1 = h ∧ g + 2 = r ∧ g + 3 = q) ∧ Hid (W.heap.size = g + 4) ∧ Below w.heap.size w W := by
  obtain ⟨W1, g, h, r, hW, hg, hh, hr, ⟨h1, h2⟩, b1, b2, b3, hb, hs⟩ := box_three w x y x' y' x2 y2
  rw [hW]
  obtain ⟨W2, q, hW2, hq, b4, hb2, hs2⟩ := box_new W1 x3 y3
  have hb3 : Below W1.heap.size W1 W2 := by rw [hq]; exact hb2
  have b1' := b1.below hb3 b1.lt
  have b2' := b2.below hb3 b2.lt
  have b3' := b3.below hb3 b3.lt
  exact ⟨W2, g, h, r, q, hW2, hg, hh, hr, by omega, Lib.hid b1', Lib.hid b2', Lib.hid b3', Lib.hid b4, Lib.hid (by omega), Lib.hid (by omega), by rw [hg]; exact hb.trans (hb2.mono (by omega))⟩
theorem Part.put {w w' : World} {g base : Nat} {v : Value} {n : Nat} (h : Part w base v n) (p : Put g w w') : Part w' base v n := by
  obtain ⟨A, c, xs, h1, h2, h3, h4, h5, h6⟩ := h
  exact ⟨A, c, xs, h1, h2, h3, h4.put p, h5.put p, h6⟩
theorem raw_right (v : Value) (x : Raw) (w : World) (h : RawV w v x) : Calls Tryz.prog 37 #[v] w fun e w' => e = .returned (.bool (rightInt x)) ∧ Below w.heap.size w w' := by
  obtain ⟨A, l, c, rfl, hl, hc, hlim⟩ := h
  exact limb_right x.1 A l c x.2 w (Nat.le_refl _) hlim hl
/-- Why two records are not divided. -/
def wrongE (x y : Raw) : Int := if rightInt x && rightInt y then (if y.2.length = 0 then 7 else 0) else 2
set_option maxRecDepth 100000 in
theorem divide_wrong (u v : Value) (x y : Raw) (w : World) (hu : RawV w u x) (hv : RawV w v y) :
    Calls Tryz.prog 49 #[u, v] w fun e w' => e = .returned (.int .i64 (wrongE x y)) ∧ Below w.heap.size w w' := by
  obtain ⟨b1, A1, l1, c1, rfl, HU⟩ := hu.open
  obtain ⟨b2, A2, l2, c2, rfl, HV⟩ := hv.open
  have HL2 := Lib.hid HV.out.parts.2.1
  clear hu hv
  go_enter Tryz.func49, Tryz.ntmps49
  go_wp2_with fail
  obtain ⟨W0, g, h, hW, hg, hr, bx, by_, G_g, S_W0, hb⟩ := boxH2 w (.bool b1) (.slice A1 l1 c1) (.bool b2) (.slice A2 l2 c2)
  rw [hW, hr, hg]
  replace HU := Lib.hid (HU.out.stay hb)
  replace HV := Lib.hid (HV.out.stay hb)
  have B_W0 := Lib.hid (show Since w W0 from hb)
  clear hW hg hr hb
  have a0 := bx.out.cell0
  have a1 := bx.out.cell1
  go_wp2_with fail
  refine (raw_right _ x W0 HU.out).mono ?_
  rintro e w1 ⟨rfl, hb⟩
  replace HU := Lib.hid (HU.out.stay hb)
  replace HV := Lib.hid (HV.out.stay hb)
  replace bx := Lib.hid (bx.out.stay hb)
  replace by_ := Lib.hid (by_.out.stay hb)
  replace B_W0 := Lib.hid (B_W0.out.stay hb)
  clear hb a0 a1
  rcases hr : rightInt x
  · have HE := Lib.hid (show wrongE x y = 2 by unfold wrongE; rw [hr]; rfl)
    clear hr
    go_wp2_with fail
    go_ret
    rw [HE.out]
    exact ⟨rfl, B_W0.out⟩
  · have HR := Lib.hid hr
    clear hr
    have a0 := by_.out.cell0
    have a1 := by_.out.cell1
    go_wp2_with fail
    refine (raw_right _ y _ HV.out).mono ?_
    rintro e w2 ⟨rfl, hb⟩
    replace bx := Lib.hid (bx.out.stay hb)
    replace by_ := Lib.hid (by_.out.stay hb)
    replace B_W0 := Lib.hid (B_W0.out.stay hb)
    clear hb a0 a1
    rcases hr : rightInt y
    · have HE := Lib.hid (show wrongE x y = 2 by unfold wrongE; rw [hr, HR.out]; rfl)
      clear hr
      go_wp2_with fail
      go_ret
      rw [HE.out]
      exact ⟨rfl, B_W0.out⟩
    · have a0 := by_.out.cell0
      have a1 := by_.out.cell1
      by_cases h0 : l2 = 0
      · subst h0
        have HE := Lib.hid (show wrongE x y = 7 by unfold wrongE; rw [hr, HR.out, ← HL2.out]; rfl)
        clear hr
        go_wp2_with fail
        go_ret
        rw [HE.out]
        exact ⟨rfl, B_W0.out⟩
      · have HE := Lib.hid (show wrongE x y = 0 by unfold wrongE; rw [hr, HR.out, ← HL2.out, if_neg h0]; rfl)
        have h0I : ((l2 : Int) == 0) = false := beq_eq_false_iff_ne.2 (by omega)
        clear hr h0
        go_wp2_with fail
        go_ret
        rw [HE.out]
        exact ⟨rfl, B_W0.out⟩
set_option maxRecDepth 100000 in
theorem divide_Trunc_bad (u v : Value) (x y : Raw) (E : Int) (w : World) (hu : RawV w u x) (hv : RawV w v y) (hE : wrongE x y = E) (h0 : E ≠ 0) :
    Calls Tryz.prog 14 #[u, v] w fun e w' => e = .returned (.tuple #[none2, none2, .int .i64 E]) ∧ Below w.heap.size w w' := by
  obtain ⟨b1, A1, l1, c1, rfl, HU⟩ := hu.open
  obtain ⟨b2, A2, l2, c2, rfl, HV⟩ := hv.open
  have HE := Lib.hid hE
  have h0I : ((E : Int) != 0) = true := by rw [bne_iff_ne]; exact h0
  clear hu hv hE h0
  go_enter Tryz.func14, Tryz.ntmps14
  go_wp2_with fail
  obtain ⟨W0, g, h, r, q, hW, hg, hh, hr, hq, bx, by_, br, bq, G_g, S_W0, hb⟩ := boxH4 w (.bool b1) (.slice A1 l1 c1) (.bool b2) (.slice A2 l2 c2) (.bool false) (.slice none 0 0) (.bool false) (.slice none 0 0)
  rw [hW, hq, hr, hh, hg]
  replace HU := Lib.hid (HU.out.stay hb)
  replace HV := Lib.hid (HV.out.stay hb)
  have B_W0 := Lib.hid (show Since w W0 from hb)
  clear hW hg hh hr hq hb
  have a0 := bx.out.cell0
  have a1 := bx.out.cell1
  have b0 := by_.out.cell0
  have b1 := by_.out.cell1
  go_wp2_with fail
  refine (divide_wrong _ _ x y W0 HU.out HV.out).mono ?_
  rintro e w1 ⟨rfl, hb⟩
  rw [HE.out]
  replace bx := Lib.hid (bx.out.stay hb)
  replace by_ := Lib.hid (by_.out.stay hb)
  replace br := Lib.hid (br.out.stay hb)
  replace bq := Lib.hid (bq.out.stay hb)
  replace B_W0 := Lib.hid (B_W0.out.stay hb)
  clear hb a0 a1 b0 b1
  have hne : ¬ r = q := by have := G_g.out; omega
  have HGG := Lib.hid (show w.heap.size ≤ r ∧ w.heap.size ≤ q by have := G_g.out; omega)
  have c0 := br.out.cell0
  have c1' := br.out.cell1
  have f0 := br.out.free 0
  have f1 := br.out.free 1
  have d0 := bq.out.cell0
  have d1 := bq.out.cell1
  have g0 := bq.out.free 0
  have g1 := bq.out.free 1
  have bh := Box2.far (h := q) (a := .bool false) (b := .slice none 0 0) (br.out.store (a := .bool false) (b := .slice none 0 0)) (fun e => hne e.symm)
  have bk := (Box2.far (h := r) (a := .bool false) (b := .slice none 0 0) bq.out hne).store (a := .bool false) (b := .slice none 0 0)
  go_wp2_with fail
  refine bodyPost_ret (v := .tuple #[.agg #[.bool false, (.slice none 0 0)], .agg #[.bool false, (.slice none 0 0)], (.int .i64 E)]) (by
    rw [results_rec2 rfl]
    have hld := run_loadVar_row (P := Tryz.prog) _ r 24 24 #[.bool false, (.slice none 0 0)] (0, 0) _ bh Tryz.underlying24 rfl (by kernel_rfl)
    have hld2 := run_loadVar_row (P := Tryz.prog) _ q 24 24 #[.bool false, (.slice none 0 0)] (0, 0) _ bk Tryz.underlying24 rfl (by kernel_rfl)
    simp [asAddr, Result.andThen, hld, hld2]) rfl ?_
  exact ⟨rfl, store2_below (store2_below B_W0.out HGG.out.1) HGG.out.2⟩
theorem wrongE_int {x y : Int} (lx : lc x.natAbs ≤ 4096) (ly : lc y.natAbs ≤ 4096) (h0 : y ≠ 0) : wrongE (rawOf x) (rawOf y) = 0 := by
  unfold wrongE
  have h1 := right_of lx
  have h2 := right_of ly
  have h3 : (limbs y.natAbs).length ≠ 0 := fun h => by have := limbs_eq_nil.1 (List.eq_nil_of_length_eq_zero h); omega
  unfold rawOf
  rw [h1, h2, if_neg h3]; rfl
set_option maxHeartbeats 1000000 in
set_option maxRecDepth 100000 in
theorem divide_Trunc (u v : Value) (x y : Int) (w : World) (hu : IntV w u x) (hv : IntV w v y) (lx : lc x.natAbs ≤ 4096) (ly : lc y.natAbs ≤ 4096) (h0 : y ≠ 0) (hg : lc y.natAbs ≤ 1200 ∨ lc x.natAbs ≤ lc y.natAbs + 800) :
    Calls Tryz.prog 14 #[u, v] w fun e w' => ∃ p q, e = .returned (.tuple #[p, q, .int .i64 0]) ∧ RawAt w' w.heap.size p (rawOf (x.tdiv y)) ∧ RawAt w' w.heap.size q (rawOf (x.tmod y)) ∧ Sep p q ∧ Below w.heap.size w w' := by
  obtain ⟨b1, A1, l1, c1, rfl, HU⟩ := hu.open
  obtain ⟨b2, A2, l2, c2, rfl, HV⟩ := hv.open
  have HP1 := Lib.hid HU.out.parts
  have HP2 := Lib.hid HV.out.parts
  have HWR := Lib.hid (wrongE_int lx ly h0)
  have HLX := Lib.hid lx
  have HLY := Lib.hid ly
  have HG := Lib.hid hg
  have H0 := Lib.hid h0
  clear hu hv lx ly h0 hg
  go_enter Tryz.func14, Tryz.ntmps14
  go_wp2_with fail
  obtain ⟨W0, g, h, r, q, hW, hg, hh, hr, hq, bx, by_, br, bq, G_g, S_W0, hb⟩ := boxH4 w (.bool b1) (.slice A1 l1 c1) (.bool b2) (.slice A2 l2 c2) (.bool false) (.slice none 0 0) (.bool false) (.slice none 0 0)
  rw [hW, hq, hr, hh, hg]
  replace HU := Lib.hid (HU.out.stay hb)
  replace HV := Lib.hid (HV.out.stay hb)
  have B_W0 := Lib.hid (show Since w W0 from hb)
  clear hW hg hh hr hq hb
  have a0 := bx.out.cell0
  have a1 := bx.out.cell1
  have b0 := by_.out.cell0
  have b1 := by_.out.cell1
  go_wp2_with fail
  refine (divide_wrong _ _ _ _ W0 HU.out.raw HV.out.raw).mono ?_
  rintro e w1 ⟨rfl, hb⟩
  rw [HWR.out]
  replace HU := Lib.hid (HU.out.stay hb)
  replace HV := Lib.hid (HV.out.stay hb)
  replace bx := Lib.hid (bx.out.stay hb)
  replace by_ := Lib.hid (by_.out.stay hb)
  replace br := Lib.hid (br.out.stay hb)
  replace bq := Lib.hid (bq.out.stay hb)
  replace B_W0 := Lib.hid (B_W0.out.stay hb)
  clear hb a0 a1 b0 b1
  have a0 := bx.out.cell0
  have a1 := bx.out.cell1
  have b0 := by_.out.cell0
  have b1 := by_.out.cell1
  go_wp2_with fail
  have C := divide_divide A1 A2 c1 c2 x.natAbs y.natAbs l1 l2 w1 HU.out.parts.2.2.2 HV.out.parts.2.2.2 HP1.out.2.1 HP2.out.2.1 (by have h1 := HP1.out.2.1; have h2 := HLX.out; unfold lc at h2; omega) (by have h1 := HP2.out.2.1; have h2 := HLY.out; unfold lc at h2; omega) HP1.out.2.2.1 (by have := H0.out; omega) (by have h1 := HG.out; unfold lc at h1; have h2 := HP1.out.2.1; have h3 := HP2.out.2.1; omega)
  refine C.mono ?_
  rintro e w2 ⟨p, q', rfl, hp, hq, hs, hb⟩
  clear C a0 a1 b0 b1
  replace bx := Lib.hid (bx.out.stay hb)
  replace by_ := Lib.hid (by_.out.stay hb)
  replace br := Lib.hid (br.out.stay hb)
  replace bq := Lib.hid (bq.out.stay hb)
  have HPP := Lib.hid (hp.since B_W0.out.size)
  have HPQ := Lib.hid (hq.since B_W0.out.size)
  have HSP := Lib.hid hs
  replace B_W0 := Lib.hid (B_W0.out.stay hb)
  clear hp hq hs hb HU HV
  go_upto_region 5 with (fail)
  have a0 := later_cell bx.out.cell0
  have a1 := later_cell bx.out.cell1
  have b0 := later_cell by_.out.cell0
  have b1 := later_cell by_.out.cell1
  refine wp_region_stages (fun w' => ∃ δ : Later Nix w2, w' = δ.world) [(false, 0), (false, 1), (false, 2), (false, 3), (false, 4), (false, 5), (false, 7), (false, 8), (false, 9), (true, 6)] 10 [.reads [_, _, _, _, _, _, _, _, _], .loud _] [_, _, _, _] (by kernel_rfl) (by kernel_rfl) rfl rfl ?_ ?_
  · exact ⟨⟨_, nix_drawn w2⟩, rfl⟩
  refine wpStages_reads ?_
  repeat (go_big_quiet_step (fail))
  refine wpQuiet_nil ?_
  refine wpStages_loud rfl ?_
  intro K hK
  go_big_op
  clear a0 a1 b0 b1
  have ex : Ext Nix w2 (w2.drewN 1) := nix_drawn w2
  have hb : Below w2.heap.size w2 (w2.drewN 1) := below_drewN (Below.refl _ _) 1
  replace HPP := Lib.hid (HPP.out.stay hb)
  replace HPQ := Lib.hid (HPQ.out.stay hb)
  replace bx := Lib.hid (bx.out.stay hb)
  replace by_ := Lib.hid (by_.out.stay hb)
  replace br := Lib.hid (br.out.stay hb)
  replace bq := Lib.hid (bq.out.stay hb)
  replace B_W0 := Lib.hid (B_W0.out.stay hb)
  clear hb
  refine ((divide_made (!(b1 == b2)) p _ _ _ HPP.out)).mono ?_
  rintro e w3 ⟨up, rfl, hup, hk1, hb⟩
  replace ex : Ext Nix w2 w3 := ex.later (Ext.of_below hb)
  replace HPQ := Lib.hid (HPQ.out.stay hb)
  replace bx := Lib.hid (bx.out.stay hb)
  replace by_ := Lib.hid (by_.out.stay hb)
  replace br := Lib.hid (br.out.stay hb)
  replace bq := Lib.hid (bq.out.stay hb)
  replace B_W0 := Lib.hid (B_W0.out.stay hb)
  clear hb
  refine hK _ _ ⟨⟨_, ex⟩, rfl⟩ ?_
  clear hK K
  obtain ⟨bu, Au, lu, cu, rfl, HU⟩ := hup.open
  have HK1 := Lib.hid hk1
  clear hup hk1 HPP
  refine wpStages_nil ?_
  go_wp2_with fail
  refine (divide_made b1 q' _ _ _ HPQ.out).mono ?_
  rintro e w4 ⟨uq, rfl, huq, hk2, hb⟩
  replace HU := Lib.hid (HU.out.stay hb)
  replace bx := Lib.hid (bx.out.stay hb)
  replace by_ := Lib.hid (by_.out.stay hb)
  replace br := Lib.hid (br.out.stay hb)
  replace bq := Lib.hid (bq.out.stay hb)
  replace B_W0 := Lib.hid (B_W0.out.stay hb)
  obtain ⟨bv, Av, lv, cv, rfl, HV⟩ := huq.open
  have HK2 := Lib.hid hk2
  clear huq hk2 hb HPQ
  have hne : ¬ r = q := by have := G_g.out; omega
  have HGG := Lib.hid (show w.heap.size ≤ r ∧ w.heap.size ≤ q by have := G_g.out; omega)
  have c0 := br.out.cell0
  have c1' := br.out.cell1
  have f0 := br.out.free 0
  have f1 := br.out.free 1
  have d0 := bq.out.cell0
  have d1 := bq.out.cell1
  have g0 := bq.out.free 0
  have g1 := bq.out.free 1
  have n0 := br.out.nums
  have n1 := bq.out.nums
  have bh := Box2.far (h := q) (a := .bool bv) (b := .slice Av lv cv) (br.out.store (a := .bool bu) (b := .slice Au lu cu)) (fun e => hne e.symm)
  have bk := Box2.far (h := r) (a := .bool bu) (b := .slice Au lu cu) bq.out hne
  have HBK := Lib.hid (And.intro bh bk)
  have HN := Lib.hid (And.intro n0 n1)
  clear bh bk n0 n1
  go_wp2_with fail
  refine bodyPost_ret (v := .tuple #[.agg #[.bool bu, (.slice Au lu cu)], .agg #[.bool bv, (.slice Av lv cv)], (.int .i64 0)]) (by
    rw [results_rec2 rfl]
    have hld := run_loadVar_row (P := Tryz.prog) _ r 24 24 #[.bool bu, (.slice Au lu cu)] (0, 0) _ HBK.out.1 Tryz.underlying24 rfl (by kernel_rfl)
    have hld2 := run_loadVar_row (P := Tryz.prog) _ q 24 24 #[.bool bv, (.slice Av lv cv)] (0, 0) _ HBK.out.2.store Tryz.underlying24 rfl (by kernel_rfl)
    simp [asAddr, Result.andThen, hld, hld2]) rfl ?_
  have e1 : signed (!(b1 == b2)) (x.natAbs / y.natAbs) = x.tdiv y := by rw [HP1.out.1, HP2.out.1]; exact signed_quo x y
  have e2 : signed b1 (x.natAbs % y.natAbs) = x.tmod y := by rw [HP1.out.1]; exact signed_rem x y
  rw [e1] at HU
  rw [e2] at HV
  exact ⟨_, _, rfl, (HU.out.store2 HN.out.1 _ _).store2 HBK.out.2.nums _ _, (HV.out.store2 HN.out.1 _ _).store2 HBK.out.2.nums _ _, HSP.out.sub HK1.out HK2.out, store2_below (store2_below B_W0.out HGG.out.1) HGG.out.2⟩
theorem fmod_size (x : Int) {y : Int} (h0 : y ≠ 0) : (x.fmod y).natAbs < y.natAbs := by
  rcases Int.lt_trichotomy y 0 with h | h | h
  · have h1 := Int.fmod_lt_of_pos (-x) (b := -y) (by omega)
    have h2 := Int.fmod_nonneg_of_pos (-x) (b := -y) (by omega)
    rw [Int.neg_fmod_neg] at h1 h2
    omega
  · exact absurd h h0
  · have h1 := Int.fmod_lt_of_pos x h
    have h2 := Int.fmod_nonneg_of_pos x h
    omega
/-- Two blocks. -/
def Duo (r q : Nat) : Nat → Prop := fun i => i = r ∨ i = q
theorem later_duo {w : World} {p : Addr} {v : Value} {r q : Nat} (h : w.cell? p = some v) (h1 : p.block ≠ r) (h2 : p.block ≠ q) (δ : Later (Duo r q) w) : δ.world.cell? p = some v := by
  rw [cell_of_block (w := w) (δ.ext.block _ (World.block_lt_of_cell? w p h) (fun h => h.elim h1 h2))]; exact h
theorem duo_drawn {r q : Nat} (w : World) (hr : NoNum w r) (hq : NoNum w q) : Ext (Duo r q) w (w.drewN 1) := ⟨rfl, rfl, rfl, Nat.le_refl _, fun _ _ _ => rfl, fun i hi _ => by rcases hi with rfl | rfl; exact hr; exact hq⟩
theorem Ext.back {G : Nat → Prop} {w w' : World} (h : Ext G w w') : Ext G w w := ⟨rfl, rfl, rfl, Nat.le_refl _, fun _ _ _ => rfl, h.num⟩
theorem Ext.duo1 {r q : Nat} {w w1 w2 : World} (e : Ext (Duo r q) w w1) (hr : NoNum w r) (hq : NoNum w q) (k : Ext (· = r) w1 w2) : Ext (Duo r q) w w2 :=
  (e.trans k).mono (fun i _ hi => hi.elim (fun h => h) (fun h => .inl h)) (fun i hi _ => by rcases hi with rfl | rfl; exact hr; exact hq)
theorem Ext.duo2 {r q : Nat} {w w1 w2 : World} (e : Ext (Duo r q) w w1) (hr : NoNum w r) (hq : NoNum w q) (k : Ext (· = q) w1 w2) : Ext (Duo r q) w w2 :=
  (e.trans k).mono (fun i _ hi => hi.elim (fun h => h) (fun h => .inr h)) (fun i hi _ => by rcases hi with rfl | rfl; exact hr; exact hq)
theorem Sep.of_raw {w w' : World} {b1 : Nat} {u v : Value} {x y : Raw} (hu : RawAt w b1 u x) (hv : RawAt w' w.heap.size v y) : Sep u v := by
  obtain ⟨A, l, c, rfl, _, _, _, hf⟩ := hu
  obtain ⟨B, m, d, rfl, _, _, _, hg⟩ := hv
  intro a b h1 h2
  rcases hf with ⟨rfl, _⟩ | ⟨g, cs, rfl, _, h3, _⟩
  · cases h1
  · rcases hg with ⟨rfl, _⟩ | ⟨g', cs', rfl, h4, _, _⟩
    · cases h2
    · injection h1 with h1
      injection h2 with h2
      have := (Array.getElem?_eq_some_iff.1 h3).1
      simp only at h1 h2
      omega
theorem floor_case (x y : Int) (h0 : y ≠ 0) : (x.tmod y ≠ 0 ∧ decide (x < 0) ≠ decide (y < 0) ∧ x.fdiv y = x.tdiv y - 1 ∧ x.fmod y = x.tmod y + y) ∨ ((x.tmod y = 0 ∨ decide (x < 0) = decide (y < 0)) ∧ x.fdiv y = x.tdiv y ∧ x.fmod y = x.tmod y) := by
  have h := Int.fdiv_eq_tdiv (a := x) (b := y)
  have h1 := Int.mul_tdiv_add_tmod x y
  have h2 := Int.mul_fdiv_add_fmod x y
  have h3 : y ∣ x ↔ x.tmod y = 0 := Int.dvd_iff_tmod_eq_zero
  by_cases hm : x.tmod y = 0
  · rw [if_pos (h3.2 hm), Int.sub_zero] at h
    exact .inr ⟨.inl hm, h, by rw [h] at h2; omega⟩
  · rw [if_neg (fun hd => hm (h3.1 hd))] at h
    by_cases hs : decide (x < 0) = decide (y < 0)
    · have e : x.fdiv y = x.tdiv y := by
        rw [h]
        by_cases hx : 0 ≤ x
        · have hy : 0 ≤ y := by
            rw [decide_eq_false (by omega)] at hs
            have := of_decide_eq_false hs.symm; omega
          rw [if_pos hx, if_pos hy, Int.sub_zero]
        · have hy : ¬ 0 ≤ y := by
            rw [decide_eq_true (by omega)] at hs
            have := of_decide_eq_true hs.symm; omega
          rw [if_neg hx, if_neg hy, Int.sign_eq_neg_one_of_neg (by omega)]; omega
      exact .inr ⟨.inr hs, e, by rw [e] at h2; omega⟩
    · have e : x.fdiv y = x.tdiv y - 1 := by
        rw [h]
        by_cases hx : 0 ≤ x
        · have hy : ¬ 0 ≤ y := fun hy => hs (by rw [decide_eq_false (by omega), decide_eq_false (by omega)])
          rw [if_pos hx, if_neg hy]
        · have hy : 0 ≤ y := by
            rcases Decidable.em (0 ≤ y) with hy | hy
            · exact hy
            · exact absurd (by rw [decide_eq_true (by omega), decide_eq_true (by omega)]) hs
          rw [if_neg hx, if_pos hy, Int.sign_eq_one_of_pos (by omega)]
      refine .inl ⟨hm, hs, e, ?_⟩
      rw [e, Int.mul_sub, Int.mul_one] at h2
      omega
theorem floor_sizes {x y : Int} (h0 : y ≠ 0) (hm : x.tmod y ≠ 0) : (x.tdiv y - 1).natAbs ≤ x.natAbs ∧ (x.tmod y).natAbs < y.natAbs ∧ (x.tdiv y).natAbs ≤ x.natAbs := by
  have h1 := Int.natAbs_tdiv x y
  have h2 := Int.natAbs_tmod x y
  have h3 : (x.tmod y).natAbs ≠ 0 := by omega
  obtain ⟨m, hm'⟩ : ∃ m, x.natAbs = m := ⟨_, rfl⟩
  obtain ⟨n, hn⟩ : ∃ n, y.natAbs = n := ⟨_, rfl⟩
  have hn0 : 0 < n := by omega
  have h1' : (x.tdiv y).natAbs = m / n := by rw [h1, hm', hn]; rfl
  have h2' : (x.tmod y).natAbs = m % n := by rw [h2, hm', hn]
  rw [hm', hn]
  have h4 : n ≠ 1 := by rintro rfl; rw [h2', Nat.mod_one] at h3; exact h3 rfl
  have h5 : m / n ≤ m / 2 := Nat.div_le_div_left (by omega) (by omega)
  have h6 := Nat.mod_lt m hn0
  have h7 : m ≠ 0 := by rintro rfl; rw [h2', Nat.zero_mod] at h3; exact h3 rfl
  omega
set_option maxHeartbeats 1000000 in
set_option maxRecDepth 100000 in
theorem divide_Floor (u v : Value) (x y : Int) (w : World) (hu : IntV w u x) (hv : IntV w v y) (lx : lc x.natAbs ≤ 4096) (ly : lc y.natAbs ≤ 4096) (h0 : y ≠ 0) (hg : lc y.natAbs ≤ 1200 ∨ lc x.natAbs ≤ lc y.natAbs + 800) :
    Calls Tryz.prog 13 #[u, v] w fun e w' => ∃ p q, e = .returned (.tuple #[p, q, .int .i64 0]) ∧ RawAt w' w.heap.size p (rawOf (x.fdiv y)) ∧ RawAt w' w.heap.size q (rawOf (x.fmod y)) ∧ Sep p q ∧ Below w.heap.size w w' := by
  obtain ⟨b1, A1, l1, c1, rfl, HU⟩ := hu.open
  obtain ⟨b2, A2, l2, c2, rfl, HV⟩ := hv.open
  have HP1 := Lib.hid HU.out.parts
  have HP2 := Lib.hid HV.out.parts
  have HLX := Lib.hid lx
  have HLY := Lib.hid ly
  have HG := Lib.hid hg
  have H0 := Lib.hid h0
  clear hu hv lx ly h0 hg
  go_enter Tryz.func13, Tryz.ntmps13
  go_wp2_with fail
  obtain ⟨W0, g, h, r, q, hW, hg, hh, hr, hq, bx, by_, br, bq, G_g, S_W0, hb⟩ := boxH4 w (.bool b1) (.slice A1 l1 c1) (.bool b2) (.slice A2 l2 c2) (.bool false) (.slice none 0 0) (.bool false) (.slice none 0 0)
  rw [hW, hq, hr, hh, hg]
  replace HU := Lib.hid (HU.out.stay hb)
  replace HV := Lib.hid (HV.out.stay hb)
  have B_W0 := Lib.hid (show Since w W0 from hb)
  clear hW hg hh hr hq hb
  have a0 := bx.out.cell0
  have a1 := bx.out.cell1
  have b0 := by_.out.cell0
  have b1 := by_.out.cell1
  go_wp2_with fail
  refine (divide_Trunc _ _ x y W0 HU.out HV.out HLX.out HLY.out H0.out HG.out).mono ?_
  rintro e w1 ⟨p, q', rfl, hp, hq, hs, hb⟩
  obtain ⟨bp, Ap, lp, cp, rfl, HP⟩ := hp.open
  obtain ⟨bm, Am, lm, cm, rfl, HM⟩ := hq.open
  have HS := Lib.hid hs
  clear hp hq hs
  replace HV := Lib.hid (HV.out.stay hb)
  replace bx := Lib.hid (bx.out.stay hb)
  replace by_ := Lib.hid (by_.out.stay hb)
  replace br := Lib.hid (br.out.stay hb)
  replace bq := Lib.hid (bq.out.stay hb)
  replace B_W0 := Lib.hid (B_W0.out.stay hb)
  clear hb a0 a1 b0 b1
  go_upto_region 2 with (fail)
  have HQL := Lib.hid bq.out.lt
  obtain ⟨W2, gp, gm, hW, hg, hr, bpp, bmm, G_gp, S_W2, hb⟩ := boxH2 w1 (.bool bp) (.slice Ap lp cp) (.bool bm) (.slice Am lm cm)
  rw [hW, hr, hg]
  replace HV := Lib.hid (HV.out.stay hb)
  replace HP := Lib.hid (HP.out.stay hb)
  replace HM := Lib.hid (HM.out.stay hb)
  replace bx := Lib.hid (bx.out.stay hb)
  replace by_ := Lib.hid (by_.out.stay hb)
  replace br := Lib.hid (br.out.stay hb)
  replace bq := Lib.hid (bq.out.stay hb)
  replace B_W0 := Lib.hid (B_W0.out.stay hb)
  have B_W2 := Lib.hid (show Since w1 W2 from hb)
  clear hW hg hr hb
  replace HQL := Lib.hid (show q < gp ∧ gp < gm by have h1 := HQL.out; have h2 := G_gp.out; omega)
  have HLM := Lib.hid HM.out.rawV.parts.2.1
  go_cut [31] (fun t wx => W2 = wx ∧ t = .bool (decide (lm ≠ 0) && (b1 != b2)))
  case first =>
    have a0 := bx.out.cell0
    have a1 := bx.out.cell1
    have k0 := by_.out.cell0
    have k1 := by_.out.cell1
    have c0 := bmm.out.cell0
    have c1 := bmm.out.cell1
    by_cases hl : lm = 0
    · subst hl
      go_wp2_with fail
      go_meet
      exact ⟨rfl, rfl⟩
    · have hlI : (0 : Int) < (lm : Int) := by omega
      have HL := Lib.hid hl
      clear hl
      rcases b1 <;> rcases b2
      all_goals
        go_wp2_with fail
        go_meet
        exact ⟨rfl, by rw [decide_eq_true HL.out]; rfl⟩
  case rest =>
    obtain ⟨rfl, rfl⟩ := hcut
    have HZ := Lib.hid (show lm = 0 ↔ x.tmod y = 0 by
      rw [HLM.out]
      constructor
      · intro h; have := limbs_eq_nil.1 (List.eq_nil_of_length_eq_zero h); omega
      · intro h; rw [h]; show (limbs 0).length = 0; rw [limbs_zero]; rfl)
    go_upto_if 31 with (fail)
    go_cut [] (fun wx => ∃ (bp : Bool) (Ap : Option Addr) (lp cp : Nat) (bm : Bool) (Am : Option Addr) (lm cm : Nat), Hid (Box2 wx gp (.bool bp) (.slice Ap lp cp)) ∧ Hid (Box2 wx gm (.bool bm) (.slice Am lm cm)) ∧ Hid (RawAt wx W0.heap.size (.agg #[.bool bp, .slice Ap lp cp]) (rawOf (x.fdiv y))) ∧ Hid (RawAt wx W0.heap.size (.agg #[.bool bm, .slice Am lm cm]) (rawOf (x.fmod y))) ∧
      Hid (Sep (.agg #[.bool bp, .slice Ap lp cp]) (.agg #[.bool bm, .slice Am lm cm])) ∧ Hid (Box2 wx r (.bool false) (.slice none 0 0)) ∧ Hid (Box2 wx q (.bool false) (.slice none 0 0)) ∧ Hid (Since w wx))
    case first =>
      rcases floor_case x y H0.out with ⟨hm, hs, hf, hr⟩ | ⟨hms, hf, hr⟩
      · have hcond : (decide (lm ≠ 0) && (b1 != b2)) = true := by
          have e : decide (lm ≠ 0) = true := decide_eq_true (fun h => hm (HZ.out.1 h))
          rw [HP1.out.1, HP2.out.1, e, Bool.true_and, bne_iff_ne]; exact hs
        have HSZ := Lib.hid (floor_sizes H0.out hm)
        have HFR := Lib.hid (And.intro hf hr)
        rw [hcond]
        clear hcond hm hs hf hr
        go_upto_region 3 with (fail)
        have a0 := bpp.out.cell0
        have a1 := bpp.out.cell1
        have fr := bpp.out.free
        have HL1 := Lib.hid (show lc (x.tdiv y - 1).natAbs ≤ 4096 ∧ lc (x.tdiv y).natAbs ≤ 4096 ∧ lc (1 : Int).natAbs ≤ 4096 from ⟨Nat.le_trans (lc_mono HSZ.out.1) HLX.out, Nat.le_trans (lc_mono HSZ.out.2.2) HLX.out, Nat.le_trans one_len (by omega)⟩)
        go_region_with (first
          | (go_at_call 48
             refine (limb_Of 1 _ (by omega) (by omega)).mono ?_
             rintro e w3 ⟨u1, rfl, hu1, hb⟩
             have HO := Lib.hid hu1.rawV.int
             replace hb : Below W2.heap.size W2 w3 := (below_drewN (Below.refl _ W2) 1).trans hb
             have HS3 := Lib.hid (show W0.heap.size ≤ w3.heap.size by have h1 := hb.size; have h2 := G_gp.out; have h3 := G_g.out; have h4 := S_W0.out; have h5 := HQL.out; have h6 := S_W2.out; omega)
             clear hu1 a0 a1 fr
             replace HP := Lib.hid (HP.out.stay hb)
             replace HM := Lib.hid (HM.out.stay hb)
             replace HV := Lib.hid (HV.out.stay hb)
             replace bpp := Lib.hid (bpp.out.stay hb)
             replace bmm := Lib.hid (bmm.out.stay hb)
             replace by_ := Lib.hid (by_.out.stay hb)
             replace br := Lib.hid (br.out.stay hb)
             replace bq := Lib.hid (bq.out.stay hb)
             replace B_W0 := Lib.hid (B_W0.out.stay hb)
             have a0 := bpp.out.cell0
             have a1 := bpp.out.cell1
             have fr := bpp.out.free
             clear hb)
          | (go_at_call 47
             refine (limb_Sub _ _ (x.tdiv y) 1 _ HP.out.rawV.int HO.out HL1.out.2.1 HL1.out.2.2).mono ?_
             rintro e w4 ⟨u2, rfl, hu2, hb⟩
             rw [longR_ok HL1.out.1, ← HFR.out.1] at hu2
             rw [longE_ok HL1.out.1]
             obtain ⟨bp', Ap', lp', cp', rfl, HPN⟩ := (hu2.since (base' := W0.heap.size) HS3.out).open
             clear hu2 a0 a1 fr HP HO
             replace HM := Lib.hid (HM.out.stay hb)
             replace HV := Lib.hid (HV.out.stay hb)
             replace bpp := Lib.hid (bpp.out.stay hb)
             replace bmm := Lib.hid (bmm.out.stay hb)
             replace by_ := Lib.hid (by_.out.stay hb)
             replace br := Lib.hid (br.out.stay hb)
             replace bq := Lib.hid (bq.out.stay hb)
             replace B_W0 := Lib.hid (B_W0.out.stay hb)
             have a0 := bpp.out.cell0
             have a1 := bpp.out.cell1
             have fr := bpp.out.free
             have HB4 := Lib.hid (show W0.heap.size ≤ gp by have h1 := G_g.out; have h2 := S_W0.out; have h3 := HQL.out; omega)
             clear hb))
        all_goals
          obtain ⟨W5, hW5, bpn, p5⟩ := bpp.out.write (.bool bp') (.slice Ap' lp' cp')
          rw [hW5]
          replace HM := Lib.hid (HM.out.put p5)
          replace HV := Lib.hid (HV.out.put p5)
          replace HPN := Lib.hid (HPN.out.put p5)
          replace bmm := Lib.hid (bmm.out.put p5 (by have := HQL.out; omega))
          replace by_ := Lib.hid (by_.out.put p5 (by have h1 := HQL.out; have h2 := G_g.out; omega))
          replace br := Lib.hid (br.out.put p5 (by have h1 := HQL.out; have h2 := G_g.out; omega))
          replace bq := Lib.hid (bq.out.put p5 (by have h1 := HQL.out; have h2 := G_g.out; omega))
          replace B_W0 := Lib.hid (B_W0.out.put p5 (by have h1 := HQL.out; have h2 := G_g.out; omega))
          clear hW5 p5 bpp a0 a1 fr
          have a0 := bmm.out.cell0
          have a1 := bmm.out.cell1
          have k0 := by_.out.cell0
          have k1 := by_.out.cell1
          have HL2 := Lib.hid (show lc (x.tmod y + y).natAbs ≤ 4096 ∧ lc (x.tmod y).natAbs ≤ 4096 by
            have h := fmod_size x H0.out
            rw [HFR.out.2] at h
            exact ⟨Nat.le_trans (lc_mono (Nat.le_of_lt h)) HLY.out, Nat.le_trans (lc_mono (Nat.le_of_lt HSZ.out.2.1)) HLY.out⟩)
          go_wp2_with fail
          refine (limb_Add _ _ (x.tmod y) y _ HM.out.rawV.int HV.out HL2.out.2 HLY.out).mono ?_
          rintro e w6 ⟨u3, rfl, hu3, hb⟩
          rw [longR_ok HL2.out.1, ← HFR.out.2] at hu3
          rw [longE_ok HL2.out.1]
          have hs := Sep.of_raw HPN.out hu3
          obtain ⟨bm', Am', lm', cm', rfl, HMN⟩ := hu3.open
          have HSN := Lib.hid hs
          replace HMN := Lib.hid (HMN.out.since (base' := W0.heap.size) (by have h1 := bpn.out.lt; have h2 := HB4.out; omega))
          clear hu3 hs HM HV by_ k0 k1 a0 a1
          replace HPN := Lib.hid (HPN.out.stay hb)
          replace bpn := Lib.hid (bpn.out.stay hb)
          replace bmm := Lib.hid (bmm.out.stay hb)
          replace br := Lib.hid (br.out.stay hb)
          replace bq := Lib.hid (bq.out.stay hb)
          replace B_W0 := Lib.hid (B_W0.out.stay hb)
          clear hb
          have a0 := bmm.out.cell0
          have a1 := bmm.out.cell1
          have fr := bmm.out.free
          go_upto_region 5 with (fail)
          obtain ⟨W7, hW7, bmn, p7⟩ := bmm.out.write (.bool bm') (.slice Am' lm' cm')
          rw [hW7]
          replace HMN := Lib.hid (HMN.out.put p7)
          replace HPN := Lib.hid (HPN.out.put p7)
          replace bpn := Lib.hid (bpn.out.put p7 (by have := HQL.out; omega))
          replace br := Lib.hid (br.out.put p7 (by have h1 := HQL.out; have h2 := G_g.out; omega))
          replace bq := Lib.hid (bq.out.put p7 (by have h1 := HQL.out; have h2 := G_g.out; omega))
          replace B_W0 := Lib.hid (B_W0.out.put p7 (by have h1 := HQL.out; have h2 := G_g.out; omega))
          clear hW7 p7 a0 a1 fr
          go_meet
          exact ⟨bp', Ap', lp', cp', bm', Am', lm', cm', bpn, bmn, HPN, HMN, HSN, br, bq, B_W0⟩
      · have hcond : (decide (lm ≠ 0) && (b1 != b2)) = false := by
          rw [HP1.out.1, HP2.out.1]
          rcases hms with h | h
          · have e : decide (lm ≠ 0) = false := decide_eq_false (fun h1 => h1 (HZ.out.2 h))
            rw [e, Bool.false_and]
          · rw [h]; simp
        have HFR := Lib.hid (And.intro hf hr)
        rw [hcond]
        clear hcond hms hf hr
        go_wp2_with fail
        go_meet
        rw [HFR.out.1, HFR.out.2]
        exact ⟨bp, Ap, lp, cp, bm, Am, lm, cm, bpp, bmm, HP, HM, HS, br, bq, B_W0⟩
    case rest =>
      clear HP HM bpp bmm bx by_ br bq B_W0 HS HLM HZ HV
      obtain ⟨bp, Ap, lp, cp, bm, Am, lm, cm, bpp, bmm, HP, HM, HS, br, bq, B_W0⟩ := hcut
      go_upto_region 5 with (fail)
      have hne : r ≠ q := by have := G_g.out; omega
      have HGG := Lib.hid (show w.heap.size ≤ r ∧ w.heap.size ≤ q ∧ w.heap.size ≤ W0.heap.size by have h1 := G_g.out; have h2 := S_W0.out; omega)
      have HX := Lib.hid (show (gp ≠ r ∧ gp ≠ q) ∧ (gm ≠ r ∧ gm ≠ q) by have h1 := G_g.out; have h2 := HQL.out; omega)
      have HNE := Lib.hid hne
      clear hne
      have a0 := later_duo bpp.out.cell0 HX.out.1.1 HX.out.1.2
      have a1 := later_duo bpp.out.cell1 HX.out.1.1 HX.out.1.2
      have k0 := later_duo bmm.out.cell0 HX.out.2.1 HX.out.2.2
      have k1 := later_duo bmm.out.cell1 HX.out.2.1 HX.out.2.2
      have HNN := Lib.hid (And.intro br.out.nums bq.out.nums)
      haveI : Nonempty (Later (Duo r q) wc) := ⟨⟨wc, (duo_drawn wc HNN.out.1 HNN.out.2).back⟩⟩
      refine wp_region_stages (fun w' => ∃ δ : Later (Duo r q) wc, w' = δ.world) [(false, 0), (false, 1), (false, 2), (true, 3), (true, 4)] 5 [.reads [_, _, _], .loud _, .loud _] [_] (by kernel_rfl) (by kernel_rfl) rfl rfl ?_ ?_
      · exact ⟨⟨_, duo_drawn wc HNN.out.1 HNN.out.2⟩, rfl⟩
      refine wpStages_reads ?_
      repeat (go_big_quiet_step (fail))
      refine wpQuiet_nil ?_
      clear a0 a1 k0 k1
      have ex : Ext Nix wc (wc.drewN 1) := nix_drawn wc
      have hb : Below wc.heap.size wc (wc.drewN 1) := below_drewN (Below.refl _ _) 1
      replace HP := Lib.hid (HP.out.stay hb)
      replace HM := Lib.hid (HM.out.stay hb)
      replace br := Lib.hid (br.out.stay hb)
      replace bq := Lib.hid (bq.out.stay hb)
      replace B_W0 := Lib.hid (B_W0.out.stay hb)
      clear hb
      replace ex := Lib.hid (duo_drawn wc HNN.out.1 HNN.out.2)
      refine wpStages_loud rfl ?_
      intro K hK
      have c0 := br.out.cell0
      have c1' := br.out.cell1
      have f0 := br.out.free
      go_big_op
      clear c0 c1' f0
      obtain ⟨Wr, hWr, br', p⟩ := br.out.write (.bool bp) (.slice Ap lp cp)
      rw [hWr]
      replace ex := Lib.hid (ex.out.duo1 HNN.out.1 HNN.out.2 p.ext)
      replace HP := Lib.hid (HP.out.put p)
      replace HM := Lib.hid (HM.out.put p)
      replace bq := Lib.hid (bq.out.put p HNE.out.symm)
      replace B_W0 := Lib.hid (B_W0.out.put p HGG.out.1)
      refine hK _ _ ⟨⟨_, ex.out⟩, rfl⟩ ?_
      clear hK K hWr p br
      refine wpStages_loud rfl ?_
      intro K hK
      have c0 := bq.out.cell0
      have c1' := bq.out.cell1
      have f0 := bq.out.free
      go_big_op
      clear c0 c1' f0
      obtain ⟨Wq, hWq, bq', p⟩ := bq.out.write (.bool bm) (.slice Am lm cm)
      rw [hWq]
      replace ex := Lib.hid (ex.out.duo2 HNN.out.1 HNN.out.2 p.ext)
      replace HP := Lib.hid (HP.out.put p)
      replace HM := Lib.hid (HM.out.put p)
      replace br' := Lib.hid (br'.out.put p HNE.out)
      replace B_W0 := Lib.hid (B_W0.out.put p HGG.out.2.1)
      refine hK _ _ ⟨⟨_, ex.out⟩, rfl⟩ ?_
      clear hK K hWq p bq
      refine wpStages_nil ?_
      go_wp2_with fail
      refine bodyPost_ret (v := .tuple #[.agg #[.bool bp, (.slice Ap lp cp)], .agg #[.bool bm, (.slice Am lm cm)], (.int .i64 0)]) (by
        rw [results_rec2 rfl]
        have hld := run_loadVar_row (P := Tryz.prog) _ r 24 24 #[.bool bp, (.slice Ap lp cp)] (0, 0) _ br'.out Tryz.underlying24 rfl (by kernel_rfl)
        have hld2 := run_loadVar_row (P := Tryz.prog) _ q 24 24 #[.bool bm, (.slice Am lm cm)] (0, 0) _ bq'.out Tryz.underlying24 rfl (by kernel_rfl)
        simp [asAddr, Result.andThen, hld, hld2]) rfl ?_
      exact ⟨_, _, rfl, HP.out.since HGG.out.2.2, HM.out.since HGG.out.2.2, HS.out, B_W0.out⟩
set_option maxHeartbeats 1000000 in
set_option maxRecDepth 100000 in
theorem divide_Exact (u v : Value) (x y : Int) (w : World) (hu : IntV w u x) (hv : IntV w v y) (lx : lc x.natAbs ≤ 4096) (ly : lc y.natAbs ≤ 4096) (h0 : y ≠ 0) (hg : lc y.natAbs ≤ 1200 ∨ lc x.natAbs ≤ lc y.natAbs + 800) :
    Calls Tryz.prog 15 #[u, v] w fun e w' => ∃ p, e = .returned (.tuple #[p, .bool (decide (x.tmod y = 0)), .int .i64 0]) ∧ RawAt w' w.heap.size p (if x.tmod y = 0 then rawOf (x.tdiv y) else (false, [])) ∧ Below w.heap.size w w' := by
  obtain ⟨b1, A1, l1, c1, rfl, HU⟩ := hu.open
  obtain ⟨b2, A2, l2, c2, rfl, HV⟩ := hv.open
  have HLX := Lib.hid lx
  have HLY := Lib.hid ly
  have HG := Lib.hid hg
  have H0 := Lib.hid h0
  clear hu hv lx ly h0 hg
  go_enter Tryz.func15, Tryz.ntmps15
  go_wp2_with fail
  obtain ⟨W0, g, h, r, hW, hg, hh, hr, bx, by_, br, G_g, S_W0, hb⟩ := boxH3 w (.bool b1) (.slice A1 l1 c1) (.bool b2) (.slice A2 l2 c2) (.bool false) (.slice none 0 0)
  rw [hW, hr, hh, hg]
  replace HU := Lib.hid (HU.out.stay hb)
  replace HV := Lib.hid (HV.out.stay hb)
  have B_W0 := Lib.hid (show Since w W0 from hb)
  clear hW hg hh hr hb
  have a0 := bx.out.cell0
  have a1 := bx.out.cell1
  have k0 := by_.out.cell0
  have k1 := by_.out.cell1
  go_wp2_with fail
  refine (divide_Trunc _ _ x y W0 HU.out HV.out HLX.out HLY.out H0.out HG.out).mono ?_
  rintro e w1 ⟨p, q', rfl, hp, hq, hs, hb⟩
  obtain ⟨bp, Ap, lp, cp, rfl, HP⟩ := hp.open
  obtain ⟨bm, Am, lm, cm, rfl, HM⟩ := hq.open
  clear hp hq hs
  replace br := Lib.hid (br.out.stay hb)
  replace B_W0 := Lib.hid (B_W0.out.stay hb)
  clear hb a0 a1 k0 k1
  go_upto_region 2 with (fail)
  have HQL := Lib.hid br.out.lt
  obtain ⟨W2, gp, gm, hW, hg, hr, bpp, bmm, G_gp, S_W2, hb⟩ := boxH2 w1 (.bool bp) (.slice Ap lp cp) (.bool bm) (.slice Am lm cm)
  rw [hW, hr, hg]
  replace HP := Lib.hid (HP.out.stay hb)
  replace HM := Lib.hid (HM.out.stay hb)
  replace br := Lib.hid (br.out.stay hb)
  replace B_W0 := Lib.hid (B_W0.out.stay hb)
  have B_W2 := Lib.hid (show Since w1 W2 from hb)
  clear hW hg hr hb
  replace HQL := Lib.hid (show r < gp ∧ gp < gm by have h1 := HQL.out; have h2 := G_gp.out; omega)
  have HZ := Lib.hid (show lm = 0 ↔ x.tmod y = 0 by
    rw [HM.out.rawV.parts.2.1]
    constructor
    · intro h; have := limbs_eq_nil.1 (List.eq_nil_of_length_eq_zero h); omega
    · intro h; rw [h]; show (limbs 0).length = 0; rw [limbs_zero]; rfl)
  have HGG := Lib.hid (show w.heap.size ≤ r ∧ w.heap.size ≤ W0.heap.size by have h1 := G_g.out; have h2 := S_W0.out; omega)
  have a0 := bpp.out.cell0
  have a1 := bpp.out.cell1
  have k0 := bmm.out.cell0
  have k1 := bmm.out.cell1
  have c0 := br.out.cell0
  have c1 := br.out.cell1
  have fr := br.out.free
  by_cases hl : lm = 0
  · subst hl
    have HZ0 := Lib.hid (HZ.out.1 rfl)
    go_wp2_with fail
    refine bodyPost_ret (v := .tuple #[.agg #[.bool bp, (.slice Ap lp cp)], (.bool true), (.int .i64 0)]) (by
      rw [results_rec_two rfl]
      have hld := run_loadVar_row (P := Tryz.prog) _ r 24 24 #[.bool bp, (.slice Ap lp cp)] (0, 0) _ br.out.store Tryz.underlying24 rfl (by kernel_rfl)
      simp [asAddr, Result.andThen, hld]) rfl ?_
    exact ⟨_, rfl, (HP.out.since HGG.out.2).store2 br.out.nums _ _, store2_below B_W0.out HGG.out.1⟩
  · have hlI : (0 : Int) < (lm : Int) := by omega
    have HZ0 := Lib.hid (show x.tmod y ≠ 0 from fun h => hl (HZ.out.2 h))
    clear hl
    go_wp2_with fail
    refine bodyPost_ret (v := .tuple #[.agg #[.bool false, (.slice none 0 0)], (.bool false), (.int .i64 0)]) (by
      rw [results_rec_two rfl]
      have hld := run_loadVar_row (P := Tryz.prog) _ r 24 24 #[.bool false, (.slice none 0 0)] (0, 0) _ br.out.store Tryz.underlying24 rfl (by kernel_rfl)
      simp [asAddr, Result.andThen, hld]) rfl ?_
    exact ⟨_, rfl, RawAt.zero _ _, store2_below B_W0.out HGG.out.1⟩
/-- Mod's errno and answer. -/
def modE (y : Int) : Int := if y < 0 then 2 else 0
def modR (x y : Int) : Raw := if y < 0 then (false, []) else rawOf (x.fmod y)
set_option maxHeartbeats 1000000 in
set_option maxRecDepth 100000 in
theorem divide_Mod (u v : Value) (x y : Int) (w : World) (hu : IntV w u x) (hv : IntV w v y) (lx : lc x.natAbs ≤ 4096) (ly : lc y.natAbs ≤ 4096) (h0 : y ≠ 0) (hg : lc y.natAbs ≤ 1200 ∨ lc x.natAbs ≤ lc y.natAbs + 800) :
    Calls Tryz.prog 16 #[u, v] w fun e w' => ∃ p, e = .returned (.tuple #[p, .int .i64 (modE y)]) ∧ RawAt w' w.heap.size p (modR x y) ∧ Below w.heap.size w w' := by
  obtain ⟨b1, A1, l1, c1, rfl, HU⟩ := hu.open
  obtain ⟨b2, A2, l2, c2, rfl, HV⟩ := hv.open
  have HP2 := Lib.hid HV.out.parts.1
  have HLX := Lib.hid lx
  have HLY := Lib.hid ly
  have HG := Lib.hid hg
  have H0 := Lib.hid h0
  clear hu hv lx ly h0 hg
  go_enter Tryz.func16, Tryz.ntmps16
  go_wp2_with fail
  obtain ⟨W0, g, h, r, hW, hg, hh, hr, bx, by_, br, G_g, S_W0, hb⟩ := boxH3 w (.bool b1) (.slice A1 l1 c1) (.bool b2) (.slice A2 l2 c2) (.bool false) (.slice none 0 0)
  rw [hW, hr, hh, hg]
  replace HU := Lib.hid (HU.out.stay hb)
  replace HV := Lib.hid (HV.out.stay hb)
  have B_W0 := Lib.hid (show Since w W0 from hb)
  clear hW hg hh hr hb
  have a0 := bx.out.cell0
  have a1 := bx.out.cell1
  have k0 := by_.out.cell0
  have k1 := by_.out.cell1
  go_wp2_with fail
  refine (divide_Floor _ _ x y W0 HU.out HV.out HLX.out HLY.out H0.out HG.out).mono ?_
  rintro e w1 ⟨p, q', rfl, hp, hq, hs, hb⟩
  obtain ⟨bp, Ap, lp, cp, rfl, HP⟩ := hp.open
  obtain ⟨bm, Am, lm, cm, rfl, HM⟩ := hq.open
  clear hp hq hs
  replace by_ := Lib.hid (by_.out.stay hb)
  replace br := Lib.hid (br.out.stay hb)
  replace B_W0 := Lib.hid (B_W0.out.stay hb)
  clear hb a0 a1 k0 k1
  go_upto_region 2 with (fail)
  obtain ⟨W2, gp, gm, hW, hg, hr, bpp, bmm, G_gp, S_W2, hb⟩ := boxH2 w1 (.bool bp) (.slice Ap lp cp) (.bool bm) (.slice Am lm cm)
  rw [hW, hr, hg]
  replace HM := Lib.hid (HM.out.stay hb)
  replace by_ := Lib.hid (by_.out.stay hb)
  replace br := Lib.hid (br.out.stay hb)
  replace B_W0 := Lib.hid (B_W0.out.stay hb)
  have B_W2 := Lib.hid (show Since w1 W2 from hb)
  clear hW hg hr hb
  have HGG := Lib.hid (show w.heap.size ≤ r ∧ w.heap.size ≤ W0.heap.size by have h1 := G_g.out; have h2 := S_W0.out; omega)
  have a0 := by_.out.cell0
  have a1 := by_.out.cell1
  have k0 := bmm.out.cell0
  have k1 := bmm.out.cell1
  have c0 := br.out.cell0
  have c1 := br.out.cell1
  have fr := br.out.free
  by_cases hy : y < 0
  · obtain rfl : b2 = true := by rw [HP2.out]; exact decide_eq_true hy
    have HY := Lib.hid hy
    clear hy
    go_wp2_with fail
    refine bodyPost_ret (v := .tuple #[.agg #[.bool false, (.slice none 0 0)], (.int .i64 2)]) (by
      rw [results_cell_tmp rfl]
      have hld := run_loadVar_row (P := Tryz.prog) _ r 24 24 #[.bool false, (.slice none 0 0)] (0, 0) _ br.out.store Tryz.underlying24 rfl (by kernel_rfl)
      simp [asAddr, Result.andThen, hld]) rfl ?_
    have e1 : modE y = 2 := if_pos HY.out
    have e2 : modR x y = (false, []) := if_pos HY.out
    rw [e1, e2]
    exact ⟨_, rfl, RawAt.zero _ _, store2_below B_W0.out HGG.out.1⟩
  · obtain rfl : b2 = false := by rw [HP2.out]; exact decide_eq_false hy
    have HY := Lib.hid hy
    clear hy
    go_wp2_with fail
    refine bodyPost_ret (v := .tuple #[.agg #[.bool bm, (.slice Am lm cm)], (.int .i64 0)]) (by
      rw [results_cell_tmp rfl]
      have hld := run_loadVar_row (P := Tryz.prog) _ r 24 24 #[.bool bm, (.slice Am lm cm)] (0, 0) _ br.out.store Tryz.underlying24 rfl (by kernel_rfl)
      simp [asAddr, Result.andThen, hld]) rfl ?_
    have e1 : modE y = 0 := if_neg (by have := HY.out; omega)
    have e2 : modR x y = rawOf (x.fmod y) := if_neg (by have := HY.out; omega)
    rw [e1, e2]
    exact ⟨_, rfl, (HM.out.since HGG.out.2).store2 br.out.nums _ _, store2_below B_W0.out HGG.out.1⟩
end Go.Proofs.YtonbhpadoplpkaaGreat
