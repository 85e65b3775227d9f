import Derived.Test.YtonbhpadoplpkaaGreatJf
import Derived.Test.YtonbhpadoplpkaaGreatProg
import Derived.WalkKit
import Derived.Laws.OwnMore
import Derived.Deep.Draws
import Derived.Deep.OwnRows
import Derived.Deep.LoopGhost
import Derived.Deep.QuietTactic
import Derived.BigQuiet
import Derived.Lib.Hide
import Derived.Maps.AppendAt
import Derived.Laws.Rows
import Derived.OneCell
import Derived.Shelf.Spec.BitsCarry
import Derived.Deep.DeepCutAuto
import Derived.Shelf.Small.Bits
import Derived.Shelf.Strconv.Itoa0
import Derived.Shelf.Bits.Mul64
import Derived.Lib.BitFns
import Derived.Deep.CutBlock
import Derived.BigRegion
import Derived.StillTailTactics
import Derived.Deep.AppendLies
import Derived.Orders
import Derived.Lib.SliceRun
import Derived.Deep.MidRow
import Derived.BigCall
import Derived.Laws.AppendOwn
import Derived.Great.BuildSlice
import Derived.Deep.RegionWith
import Derived.WalkMore
import Derived.Laws.EntriesVeiled
import Derived.Laws.CopyOwn
import Derived.Test.YtonbhpadoplpkaaGreatRows
import Derived.ProofKit
import Derived.OpenShut
import Derived.Deep.SlicePairs
import Derived.WideKeyArgs
/- Of: Abs9, Klent, R20j, Row. -/
/- An abstract machine: rows that are handed back, lent, cut. -/
namespace Go.Proofs.YtonbhpadoplpkaaGreat
open Go.RowKit Go.Deep
/-- A slice of len elements with room for cap, that is only read: its block's cells. -/
def rowC (len cap : Nat) (cs : List AC) (hn : ∀ c ∈ cs, c.nop = true) : Pred where
  is := fun G w v => ∃ g vs, v = .slice (some ⟨g, 0, none⟩) len cap ∧ ¬ G g ∧ g < w.heap.size ∧ (∀ j u, vs[j]? = some u → w.cell? ⟨g, j, none⟩ = some u) ∧ ∀ β, oks G β w cs vs
  cell := by
    rintro G w v ⟨g, vs, rfl, _⟩
    exact ⟨noLimb_slice _ _ _, rfl⟩
  stay := by
    rintro G w w' v ⟨g, vs, rfl, hG, hg, hc, ho⟩ mv
    have mv' := mv
    obtain ⟨H, hH, e⟩ := mv.ext
    have hblk : w'.heap[g]? = w.heap[g]? := e.block _ hg fun h => hG (hH _ h)
    exact ⟨g, vs, rfl, hG, Nat.lt_of_lt_of_le hg e.size, fun j u hj => by rw [cell_of_block (w := w) (by exact hblk)]; exact hc j u hj,
      fun β => oks_step (U := fun _ => True) (fun _ _ => rfl) (fun _ h => .inl h) mv' (fun c hcm => AC.nop_low (hn c hcm) _) (ho β)⟩
  grow := by
    rintro G G' w v ⟨g, vs, rfl, hG, hg, hc, ho⟩ hgr
    refine ⟨g, vs, rfl, fun h => ?_, hg, hc, fun β => oks_step (U := fun _ => True) (fun _ _ => rfl) hgr (Mv.refl _ _) (fun c hcm => AC.nop_low (hn c hcm) _) (ho β)⟩
    rcases hgr _ h with h | h
    · exact hG h
    · omega
/-- A pointer into a row that is only read: the cells there. -/
def atP (cs : List AC) (hn : ∀ c ∈ cs, c.nop = true) : Pred where
  is := fun G w v => ∃ g o vs, v = .pointer (some ⟨g, o, none⟩) ∧ ¬ G g ∧ g < w.heap.size ∧ (∀ j u, vs[j]? = some u → w.cell? ⟨g, o + j, none⟩ = some u) ∧ ∀ β, oks G β w cs vs
  cell := by
    rintro G w v ⟨g, o, vs, rfl, _⟩
    exact ⟨fun _ => by simp, rfl⟩
  stay := by
    rintro G w w' v ⟨g, o, vs, rfl, hG, hg, hc, ho⟩ mv
    have mv' := mv
    obtain ⟨H, hH, e⟩ := mv.ext
    have hblk : w'.heap[g]? = w.heap[g]? := e.block _ hg fun h => hG (hH _ h)
    exact ⟨g, o, vs, rfl, hG, Nat.lt_of_lt_of_le hg e.size, fun j u hj => by rw [cell_of_block (w := w) (by exact hblk)]; exact hc j u hj,
      fun β => oks_step (U := fun _ => True) (fun _ _ => rfl) (fun _ h => .inl h) mv' (fun c hcm => AC.nop_low (hn c hcm) _) (ho β)⟩
  grow := by
    rintro G G' w v ⟨g, o, vs, rfl, hG, hg, hc, ho⟩ hgr
    refine ⟨g, o, vs, rfl, fun h => ?_, hg, hc, fun β => oks_step (U := fun _ => True) (fun _ _ => rfl) hgr (Mv.refl _ _) (fun c hcm => AC.nop_low (hn c hcm) _) (ho β)⟩
    rcases hgr _ h with h | h
    · exact hG h
    · omega
/-- An own row is handed on: from here on it is only read. -/
theorem le_pub {s : ASt} {t j len cap : Nat} {bt : TypeId} {cs : List AC} {tm : List (Nat × AR)} {bx : List (Nat × TypeId × List AC)} {nb : Nat} (hn : ∀ c ∈ cs, c.nop = true) (h : look s.tm t = some (.val (.one (.sl j 0 len cap)))) (hb : look s.bx j = some (bt, cs))
    (ht : LeT s.tm tm) (hbx : LeT s.bx bx) (hj : look bx j = none) (hl : ASt.lowB ⟨tm, bx, nb⟩ = true) : Le s ⟨(t, .val (.one (.st (rowC len cap cs hn)))) :: tm, bx, nb⟩ := by
  rintro n G0 w0 a w ⟨β, h'⟩
  simp only [ASt.lowB, Bool.and_eq_true] at hl
  have hsub : ∀ k, (look bx k).isSome = true → (look s.bx k).isSome = true := by
    intro k hk
    obtain ⟨p, hp⟩ := Option.isSome_iff_exists.1 hk
    rw [leT_get hbx k p hp]; rfl
  have hG : ∀ g, Gs G0 (look bx) β g → Gs G0 s.f.bx β g ∨ w.heap.size ≤ g := by
    rintro g (hg | ⟨k, hk, e⟩)
    · exact .inl (.inl hg)
    · exact .inl (.inr ⟨k, hsub k hk, e⟩)
  have hm : Mv (Gs G0 (look bx) β) w w := Mv.refl _ _
  have hnot : ¬ Gs G0 (look bx) β (β j) := by
    rintro (hg | ⟨k, hk, e⟩)
    · have h1 := (h'.new j (show (look s.bx j).isSome = true by rw [hb]; rfl)).1
      have h2 := h'.low _ hg
      omega
    · have := h'.inj k j (hsub k hk) (show (look s.bx j).isSome = true by rw [hb]; rfl) e
      subst this
      rw [hj] at hk
      cases hk
  refine ⟨β, h'.size, h'.defers, fun t' r htr => ?_, fun k t cs hk => ?_, fun k k' hk hk' => h'.inj k k' (hsub k hk) (hsub k' hk'), fun k hk => ⟨(h'.new k (hsub k hk)).1, ?_⟩, h'.since, h'.low⟩
  · have htr : look ((t, AR.val (.one (.st (rowC len cap cs hn)))) :: tm) t' = some r := htr
    rw [look_cons] at htr
    split at htr
    · rename_i e
      cases htr
      subst e
      obtain ⟨_, h2⟩ := h'.tms t _ h
      have h2 : a.tmps.getD t undef = .slice (some ⟨β j, 0, none⟩) len cap := h2
      obtain ⟨_, vs, hbox, _, hok⟩ := h'.bxs j bt cs hb
      exact ⟨trivial, β j, vs, h2, hnot, hbox.lt, fun k u hk => hbox.at _ hk, fun β2 => oks_step (U := fun _ => False) (fun _ h => h.elim) hG hm (fun c hc => AC.nop_low (hn c hc) _) hok⟩
    · obtain ⟨h1, h2⟩ := h'.tms t' r (leT_get ht t' r htr)
      exact ⟨AR.low_of (List.all_eq_true.1 hl.1 _ (look_mem htr)), AR.ok_step (U := s.f.us) (fun _ _ => rfl) hG hm h1 h2⟩
  · obtain ⟨h1, vs, h2, h3, h4⟩ := h'.bxs k t cs (leT_get hbx k (t, cs) hk)
    have h5 := List.all_eq_true.1 hl.2 _ (look_mem hk)
    simp only [Bool.and_eq_true] at h5
    exact ⟨fun c hc => AC.low_of (List.all_eq_true.1 h5.2 c hc), vs, h2, h3, oks_step (U := s.f.us) (fun _ _ => rfl) hG hm h1 h4⟩
  · obtain ⟨p, hp⟩ := Option.isSome_iff_exists.1 hk
    have h5 := List.all_eq_true.1 hl.2 _ (look_mem hp)
    simp only [Bool.and_eq_true] at h5
    have h6 : k < nb := by simpa [Nat.blt_eq] using h5.1
    exact h6
theorem rd_nop {cs r : List AC} {o n : Nat} (hn : ∀ c ∈ cs, c.nop = true) (hr : rdO cs o n = some r) : ∀ c ∈ r, c.nop = true := by
  intro c hc
  obtain ⟨r1, _, r3⟩ := rdO_get hr
  obtain ⟨k, hk⟩ := List.getElem?_of_mem hc
  rw [r3 k (by have := (List.getElem?_eq_some_iff.1 hk).1; omega)] at hk
  exact hn c (List.mem_of_getElem? hk)
theorem oks_rd {G : Nat → Prop} {β : Nat → Nat} {w : World} {cs r : List AC} {vs : List Value} {o n : Nat} (h : oks G β w cs vs) (hr : rdO cs o n = some r) : oks G β w r ((vs.drop o).take n) := by
  obtain ⟨r1, r2, r3⟩ := rdO_get hr
  have hlen := oks_len h
  refine oks_of_get (by simp; omega) fun k c v hc hv => ?_
  have hk : k < n := by have := (List.getElem?_eq_some_iff.1 hc).1; omega
  rw [r3 k hk] at hc
  obtain ⟨u, hu, hcu⟩ := oks_get h _ _ hc
  rw [List.getElem?_take, if_pos hk, List.getElem?_drop, hu] at hv
  cases hv
  exact hcu
section
variable {P : Program} {d : Option Nat} {ty : TypeId} {pos : String} {aft : Array Edge} {ev : Operand → Option AR}
theorem q_rowCAt {x ix : Operand} {len cap k sz : Nat} {cs r : List AC} {hn : ∀ c ∈ cs, c.nop = true} {st e : TypeId} (hx : ev x = some (.val (.one (.st (rowC len cap cs hn))))) (hi : ev ix = some (.val (aI (k : Int)))) (hk : k < len) (hu : P.underlying st = some (.slice e)) (hs : (P.info? e).map (·.size) = some sz)
    (hr : rdO cs (k * sz) sz = some r) : Quiet P ⟨d, .indexAddr st x ix, ty, pos, aft, none⟩ ev (.val (.one (.st (atP r (rd_nop hn hr))))) :=
  q_of2 hx hi (by simp [Op.operands]) (by simp [Op.operands]) fun G β w U ρ _ hv _ hk' => by
    obtain ⟨g, vs, he, hG, hg, hc, ho⟩ := hv
    have hk' : ρ ix = .int .i64 (k : Int) := hk'
    refine ⟨.pointer (some ⟨g, k * sz, none⟩), ?_, ⟨g, k * sz, (vs.drop (k * sz)).take sz, rfl, hG, hg, fun j u hj => ?_, fun β2 => oks_rd (ho β2) hr⟩, trivial⟩
    · cases hq : P.info? e with
      | none => simp [hq] at hs
      | some i =>
        have hsz : i.size = sz := by simpa [hq] using hs
        have ha : (⟨g, 0, none⟩ : Addr).add (k * sz) = ⟨g, k * sz, none⟩ := by rw [add_plain]
        simp [execOp, Instr.indexAt, he, hk', asIntOf, run_underlying hu, sizeOf, typeInfo, hq, hsz, hk, ha]
    · rw [List.getElem?_take] at hj
      split at hj
      · rw [List.getElem?_drop] at hj
        exact hc _ _ hj
      · cases hj
theorem q_atLoad {x : Operand} {cs : List AC} {hn : ∀ c ∈ cs, c.nop = true} {lt : TypeId} {m : Nat} {row : Bool} (hx : ev x = some (.val (.one (.st (atP cs hn))))) (hty : TyI P lt m row) (hl : cs.length = m) :
    Quiet P ⟨d, .load lt x, ty, pos, aft, none⟩ ev (.val (mkAV row cs)) :=
  q_of hx (by simp [Op.operands]) fun G β w U ρ _ hk => by
    obtain ⟨g, o, vs, he, hG, hg, hc, ho⟩ := hk
    have hlv := oks_len (ho β)
    have hld := hty.load w g o vs (fun j v hv => hc j v hv) (by omega)
    refine ⟨mkVal row vs, ?_, mkAV_ok (ho β) (fun e => by have := hty.one e; omega), mkAV_low fun c hc => AC.nop_low (hn c hc) _⟩
    unfold execOp
    simp only [he, Instr.loadAt, Instr.sureAddr, Sem.run_bind, Sem.run_pure, Result.andThen_ok, hld]
theorem run_cut {w : World} {st e : TypeId} {sz len cap h : Nat} {A : Addr} (hu : P.underlying st = some (.slice e)) (hs : (P.info? e).map (·.size) = some sz) (hh : h ≤ cap) : (Instr.sliceAt st (.slice (some A) len cap) none (some (.int .i64 (h : Int))) none).run P w = .ok (.slice (some A) h cap) w := by
  cases hq : P.info? e with
  | none => simp [hq] at hs
  | some i =>
    simp [Instr.sliceAt, Instr.slice, Instr.sliceBounds, Instr.sliceBound, asIntOf, run_underlying hu, sizeOf, typeInfo, hq, hh, go_sem]
theorem q_rowCCut {x y : Operand} {len cap h sz : Nat} {cs : List AC} {hn : ∀ c ∈ cs, c.nop = true} {st e : TypeId} (hx : ev x = some (.val (.one (.st (rowC len cap cs hn))))) (hy : ev y = some (.val (aI (h : Int)))) (hh : h ≤ cap) (hu : P.underlying st = some (.slice e)) (hs : (P.info? e).map (·.size) = some sz) :
    Quiet P ⟨d, .slice st x none (some y) none, ty, pos, aft, none⟩ ev (.val (.one (.st (rowC h cap cs hn)))) :=
  q_of2 hx hy (by simp [Op.operands]) (by simp [Op.operands]) fun G β w U ρ hl hk _ hk' => by
    obtain ⟨g, vs, he, hG, hg, hc, ho⟩ := hk
    have hk' : ρ y = .int .i64 (h : Int) := hk'
    refine ⟨.slice (some ⟨g, 0, none⟩) h cap, ?_, ⟨g, vs, rfl, hG, hg, hc, ho⟩, trivial⟩
    unfold execOp
    simp only [he, hk', Option.map_some, Option.map_none, run_cut hu hs hh, Sem.run_bind, Result.andThen_ok, Sem.run_pure]
theorem q_lenC {x : Operand} {len cap : Nat} {cs : List AC} {hn : ∀ c ∈ cs, c.nop = true} {ats : Array TypeId} {st e : TypeId} (hx : ev x = some (.val (.one (.st (rowC len cap cs hn))))) (ha : ats[0]? = some st) (hu : P.underlying st = some (.slice e)) :
    Quiet P ⟨d, .call { callee := .builtin .len, args := #[x], argTypes := ats }, ty, pos, aft, none⟩ ev (.val (aI (len : Int))) :=
  q_of hx (by simp [Op.operands, Call.operands]) fun G β w U ρ _ hk => by
    obtain ⟨g, vs, he, hG, hg, hc, ho⟩ := hk
    refine ⟨.int .i64 (len : Int), ?_, rfl, trivial⟩
    simp [execOp, resolve, invoke, builtin, Builtin.len_, he, ha, run_underlying hu]
    rfl
theorem q_conv {x : Operand} {k k' : IntKind} {m : Int} {src dst : TypeId} {ds : TypeDesc} (hx : ev x = some (.val (.one (.i k m)))) (hs : P.underlying src = some ds) (hd : P.underlying dst = some (.int k')) :
    Quiet P ⟨d, .convert src dst x, ty, pos, aft, none⟩ ev (.val (.one (.i k' (k'.wrap m)))) :=
  q_of hx (by simp [Op.operands]) fun G β w U ρ _ hk => by
    have hk : ρ x = .int k m := hk
    refine ⟨.int k' (k'.wrap m), ?_, rfl, trivial⟩
    have h1 : (convert src dst (.int k m)).run P w = .ok (.int k' (k'.wrap m)) w := by
      unfold convert
      rw [Sem.run_bind, run_underlying hs, Result.andThen_ok, Sem.run_bind, run_underlying hd, Result.andThen_ok]
      rfl
    unfold execOp
    simp only [hk, h1, Sem.run_bind, Result.andThen_ok, Sem.run_pure]
/-- Results, as they are wanted. -/
theorem q_addE {x y : Operand} {xt yt : TypeId} {k : IntKind} {m m' v : Int} (hx : ev x = some (.val (.one (.i k m)))) (hy : ev y = some (.val (.one (.i k m')))) (he : k.wrap (m + m') = v) : Quiet P ⟨d, .binOp .add xt x y yt, ty, pos, aft, none⟩ ev (.val (.one (.i k v))) := by
  subst he; exact q_add hx hy
theorem q_subE {x y : Operand} {xt yt : TypeId} {k : IntKind} {m m' v : Int} (hx : ev x = some (.val (.one (.i k m)))) (hy : ev y = some (.val (.one (.i k m')))) (he : k.wrap (m - m') = v) : Quiet P ⟨d, .binOp .sub xt x y yt, ty, pos, aft, none⟩ ev (.val (.one (.i k v))) := by
  subst he; exact q_sub hx hy
theorem q_ltE {x y : Operand} {xt yt : TypeId} {k : IntKind} {m m' : Int} {t : Bool} (hx : ev x = some (.val (.one (.i k m)))) (hy : ev y = some (.val (.one (.i k m')))) (he : decide (m < m') = t) : Quiet P ⟨d, .binOp .lss xt x y yt, ty, pos, aft, none⟩ ev (.val (.one (.b t))) := by
  subst he; exact q_lt hx hy
theorem q_geE {x y : Operand} {xt yt : TypeId} {k : IntKind} {m m' : Int} {t : Bool} (hx : ev x = some (.val (.one (.i k m)))) (hy : ev y = some (.val (.one (.i k m')))) (he : decide (m' ≤ m) = t) : Quiet P ⟨d, .binOp .geq xt x y yt, ty, pos, aft, none⟩ ev (.val (.one (.b t))) := by
  subst he; exact q_ge hx hy
theorem q_leE {x y : Operand} {xt yt : TypeId} {k : IntKind} {m m' : Int} {t : Bool} (hx : ev x = some (.val (.one (.i k m)))) (hy : ev y = some (.val (.one (.i k m')))) (he : decide (m ≤ m') = t) : Quiet P ⟨d, .binOp .leq xt x y yt, ty, pos, aft, none⟩ ev (.val (.one (.b t))) := by
  subst he; exact q_le hx hy
theorem q_convE {x : Operand} {k k' : IntKind} {m v : Int} {src dst : TypeId} {ds : TypeDesc} (hx : ev x = some (.val (.one (.i k m)))) (hs : P.underlying src = some ds) (hd : P.underlying dst = some (.int k')) (he : k'.wrap m = v) :
    Quiet P ⟨d, .convert src dst x, ty, pos, aft, none⟩ ev (.val (.one (.i k' v))) := by
  subst he; exact q_conv hx hs hd
theorem oks_cells {G : Nat → Prop} {β : Nat → Nat} {w : World} {cs : List AC} {v : Value} (h : (AV.agg cs).ok G β w v) : oks G β w cs v.cells.toList := by
  obtain ⟨vs, rfl, h⟩ := h
  simpa [Value.cells] using h
/-- A slice of one record. -/
theorem q_row1 {x : Operand} {cs : List AC} (hn : ∀ c ∈ cs, c.nop = true) {st e : TypeId} {ie : TypeInfo} {z : Value} (hx : ev x = some (.val (.agg cs))) (hu : P.underlying st = some (.slice e)) (hi : P.info? e = some ie) (hs : ie.size = cs.length) (hz : ie.zero = some z) (h0 : cs.length ≠ 0) (h1 : cs.length ≤ 1000) :
    Quiet P ⟨d, .buildSlice st 1 #[(0, x)], ty, pos, aft, none⟩ ev (.val (.one (.st (rowP 1 cs hn)))) := by
  intro G β w U ρ hG hρ
  obtain ⟨_, hk⟩ := hρ x _ (by simp [Op.operands]) hx
  have hcs := oks_cells hk
  have hsz := oks_len hcs
  have hsz' : (ρ x).cells.size = ie.size := by rw [hs, hsz]; simp
  have hfill := Great.fill_whole (s := ie.size) (by omega) [ρ x] ((Array.range (1 * ie.size)).map (z.cells[· % z.cells.size]!)) (by simpa using hsz') (by simp)
  have hrun : (Instr.buildSlice st 1 (#[(0, x)].map fun ((i, x) : Nat × Operand) => (i, ρ x))).run P w = .ok (.slice (some ⟨w.heap.size, 0, none⟩) 1 1) (w.alloc (.cells ([ρ x].flatMap fun (v : Value) => v.cells.toList).toArray e)) :=
    run_buildSlice (P := P) w st e 1 _ _ ie z hu hi hz (by omega) (by omega) (by simpa using hfill)
  have hbel : Below w.heap.size w (w.alloc (.cells ([ρ x].flatMap fun v => v.cells.toList).toArray e)) := (Below.refl _ _).alloc (Nat.le_refl _) _
  refine ⟨_, _, ?_, hbel, ⟨w.heap.size, 1, (ρ x).cells.toList, rfl, fun h => ?_, by simp, fun j u hj => ?_, fun β2 => ?_⟩, trivial⟩
  · unfold execOp
    simp only [Sem.run_bind, hrun, Result.andThen_ok, Sem.run_pure]
  · have := hG _ h
    omega
  · rw [cell_of_row _ _ j _ _ (0, 0) (heap_alloc_new w _)]
    simpa using hj
  · exact oks_step (U := fun _ => False) (fun _ h => h.elim) (fun _ h => .inl h) (Mv.of_below hbel) (fun c hc => AC.nop_low (hn c hc) _) hcs
end
/-- A slice of one limb. -/
theorem q_limb1 {d : Option Nat} {ty : TypeId} {pos : String} {aft : Array Edge} {ev : Operand → Option AR} {x : Operand} {m : Nat} (hx : ev x = some (.val (.one (.i .u64 (m : Int))))) (hm : m < W64) :
    Quiet Tryz.prog ⟨d, .buildSlice 22 1 #[(0, x)], ty, pos, aft, none⟩ ev (.val (.one (.st (magP [m])))) := by
  intro G β w U ρ hG hρ
  obtain ⟨_, hk⟩ := hρ x _ (by simp [Op.operands]) hx
  have hk : ρ x = .int .u64 (m : Int) := hk
  obtain ⟨i0, hi, hz0, hz1, hz2⟩ := info_parts info_u64
  have hrun : (Instr.buildSlice 22 1 (#[(0, x)].map fun ((i, x) : Nat × Operand) => (i, ρ x))).run Tryz.prog w = .ok (.slice (some ⟨w.heap.size, 0, none⟩) 1 1) (w.alloc (.cells #[.int .u64 (m : Int)] 85)) :=
    run_buildSlice (P := Tryz.prog) w 22 85 1 _ _ i0 (.int .u64 0) Tryz.underlying22 hi hz0 (by rw [hz1]; omega) (by rw [hz1]; omega) (by
      have hfill := Great.fill_whole (s := 1) (by omega) [ρ x] ((Array.range (1 * i0.size)).map ((Value.int .u64 0).cells[· % (Value.int .u64 0).cells.size]!)) (by simp [hk, Value.cells]) (by simp [hz1])
      rw [hz1]
      simpa [hk, Value.cells, hz1] using hfill)
  have hbel : Below w.heap.size w (w.alloc (.cells #[.int .u64 (m : Int)] 85)) := (Below.refl _ _).alloc (Nat.le_refl _) _
  have hlim := Lim.lit w m hm
  refine ⟨_, _, ?_, hbel, ⟨_, 1, 1, rfl, rfl, Nat.le_refl _, by
    have e : (w.alloc (.cells #[.int .u64 (m : Int)] 85)).heap.size = w.heap.size + 1 := by simp
    rw [e]; exact hlim⟩, trivial⟩
  unfold execOp
  simp only [Sem.run_bind, hrun, Result.andThen_ok, Sem.run_pure]
/-! ### records' cells -/
def numCs : List Raw → List AC
  | [] => []
  | x :: xs => .b x.1 :: .st (magP x.2) :: numCs xs
theorem numCs_append : ∀ xs ys, numCs (xs ++ ys) = numCs xs ++ numCs ys
  | [], _ => rfl
  | x :: xs, ys => by simp [numCs, numCs_append xs ys]
theorem numCs_length : ∀ xs, (numCs xs).length = 2 * xs.length
  | [] => rfl
  | x :: xs => by simp [numCs, numCs_length xs]; omega
theorem numCs_nop : ∀ xs, ∀ c ∈ numCs xs, c.nop = true
  | [], c, h => by cases h
  | x :: xs, c, h => by
    simp only [numCs, List.mem_cons] at h
    rcases h with rfl | rfl | h
    · rfl
    · rfl
    · exact numCs_nop xs c h
def zero2 (n : Nat) : List Raw := List.replicate n (false, [])
theorem zero_cells (n : Nat) : ∃ vs : List Value, (madeCells #[.bool false, .slice none 0 0] (n * 2)).toList = vs ∧ (∀ v ∈ vs, NoLimb v ∧ v.oneCell' = true) ∧ ∀ G β w, oks G β w (numCs (zero2 n)) vs := by
  have key : ∀ n : Nat, ∃ vs : List Value, vs.length = n * 2 ∧ (∀ j, vs[j]? = if j < n * 2 then some (if j % 2 = 0 then Value.bool false else .slice none 0 0) else none) ∧ (∀ v ∈ vs, NoLimb v ∧ v.oneCell' = true) ∧ ∀ G β w, oks G β w (numCs (zero2 n)) vs := by
    intro n
    induction n with
    | zero => exact ⟨[], rfl, fun j => by simp, (fun v h => by simp at h), fun _ _ _ => trivial⟩
    | succ n ih =>
      obtain ⟨vs, h1, h2, h3, h4⟩ := ih
      refine ⟨.bool false :: .slice none 0 0 :: vs, by simp [h1]; omega, fun j => ?_, fun v h => ?_, fun G β w => ?_⟩
      · rcases j with _ | _ | j
        · simp [show 0 < (n + 1) * 2 by omega]
        · simp [show 1 < (n + 1) * 2 by omega]
        · have := h2 j
          simp only [List.getElem?_cons_succ, this]
          by_cases h : j < n * 2
          · rw [if_pos h, if_pos (show j + 1 + 1 < (n + 1) * 2 by omega), show (j + 1 + 1) % 2 = j % 2 by omega]
          · rw [if_neg h, if_neg (by omega)]
      · simp only [List.mem_cons] at h
        rcases h with rfl | rfl | h
        · exact ⟨noLimb_bool _, rfl⟩
        · exact ⟨noLimb_slice _ _ _, rfl⟩
        · exact h3 v h
      · show oks G β w (numCs ((false, []) :: zero2 n)) _
        exact ⟨rfl, magP_nil G w, h4 G β w⟩
  obtain ⟨vs, h1, h2, h3, h4⟩ := key n
  refine ⟨vs, List.ext_getElem? fun j => ?_, h3, h4⟩
  rw [h2]
  by_cases h : j < n * 2
  · rw [if_pos h]
    have hj : j % 2 = 0 ∨ j % 2 = 1 := by omega
    rcases hj with e | e <;> simp [madeCells, h, e]
  · rw [if_neg h]
    simp [madeCells, h]
theorem info_num : (Tryz.prog.info? 24).map (fun i => (i.zero, i.size, i.bytes)) = some (some (.agg #[.bool false, .slice none 0 0]), 2, 32) := by kernel_rfl
theorem tm_nums (cap : Nat) (h : cap ≤ 100000) : TyM Tryz.prog 38 24 cap (numCs (zero2 cap)) := by
  obtain ⟨vs, h1, h2, h3⟩ := zero_cells cap
  refine ⟨vs, fun w len hle => ?_, h2, h3, numCs_nop _⟩
  obtain ⟨i0, hi, hz0, hz1, hz2⟩ := info_parts info_num
  have hr := run_make (P := Tryz.prog) (w := w) 38 24 i0 (.agg #[.bool false, .slice none 0 0]) tu_nums hi hz0 .i64 .i64 len cap (by omega) (by omega) (by rw [hz2]; omega) (by omega)
  simp only [Int.toNat_natCast, hz1] at hr
  rw [← h1]
  exact hr
/-- Cells laid behind what is there. -/
theorem layO_app {α : Type} : ∀ (A : List α) (vs B us : List α), vs.length = us.length → layO (A ++ us ++ B) A.length vs = some (A ++ vs ++ B)
  | [], [], B, us, h => by cases us with
    | nil => simp [layO]
    | cons u us => simp at h
  | [], v :: vs, B, us, h => by cases us with
    | nil => simp at h
    | cons u us =>
      have := layO_app [] vs B us (by simpa using h)
      simp only [List.nil_append, List.length_nil] at this
      simp [layO, this]
  | a :: A, vs, B, us, h => by
    have := layO_app A vs B us h
    simp only [List.append_assoc] at this
    simp [layO, this]
theorem rdO_app : ∀ (A B C : List AC), rdO (A ++ B ++ C) A.length B.length = some B
  | [], [], C => by cases C <;> simp [rdO]
  | [], b :: B, C => by
    have := rdO_app [] B C
    simp only [List.nil_append, List.length_nil] at this
    simp [rdO, this]
  | a :: A, B, C => by
    have := rdO_app A B C
    simp only [List.append_assoc] at this
    simp [rdO, this]
end Go.Proofs.YtonbhpadoplpkaaGreat
/- What is lent, and whether it was kept: lists of numbers, by the abstract machine. -/
namespace Go.Proofs.YtonbhpadoplpkaaGreat
open Go.RowKit Go.Deep
def markK (k i : Nat) : Nat := 1000003 * (k + 7) + i
theorem markK_one (i : Nat) : markK 1 i = markN i := by unfold markK markN; omega
theorem ct_mark (k i : Nat) (hk : k ≤ 1000) (hi : i ≤ 1000000000000) : Ct Tryz.prog 87 [.val (aI (k : Int)), .val (aI (i : Int))] (.val (aI (markK k i : Nat))) where
  enters := fun vals w => enters_of Tryz.func87 rfl rfl vals w
  nop := rfl
  calls := by
    intro G β w vals _ ha
    rcases vals with _ | ⟨u, _ | ⟨v, _ | ⟨t, vs⟩⟩⟩
    · exact ha.elim
    · exact ha.2.elim
    · obtain ⟨hu, hv, _⟩ := ha
      have hu : u = .int .i64 (k : Int) := hu
      have hv : v = .int .i64 (i : Int) := hv
      subst hu hv
      refine (kit_mark k i w hk hi).mono ?_
      rintro e w' ⟨rfl, rfl⟩
      exact ⟨_, rfl, by show Value.int _ _ = Value.int _ _; congr 1, Below.refl _ _⟩
    · exact ha.2.2.elim
set_option maxRecDepth 100000 in
theorem ct_markInt (k i : Nat) (hk : k ≤ 1000) (hi : i ≤ 1000000000000) : Ct Tryz.prog 78 [.val (aI (k : Int)), .val (aI (i : Int))] (aNum (false, [markK k i])) := by
  refine ct_of_wp [.cell 4 24] [(0, .val (aI (k : Int))), (1, .val (aI (i : Int)))] 11 Tryz.func78 rfl rfl rfl rfl rfl rfl rfl rfl ?_
  intro G0 w0
  have hlt : markK k i < W64 := by unfold markK; rw [W64_eq]; omega
  have hw : IntKind.u64.wrap ((markK k i : Nat) : Int) = ((markK k i : Nat) : Int) := by
    have := lt_W64 hlt
    rw [IntKind.wrap_u64]; omega
  have k1 := ct_mark k i hk hi
  repeat first
    | refine Wp_seq ?_
    | refine Wp_region tm_mixed ?_
    | refine AW_move rfl rfl ?_
    | refine AW_assign rfl rfl ?_
    | refine AW_load rfl ty_num rfl rfl rfl rfl ?_
    | refine AW_store ty_num rfl rfl rfl rfl rfl rfl rfl ?_
    | refine AW_extract rfl rfl rfl ?_
    | refine AW_alloc rfl tz_num ?_
    | refine AW_box rfl rfl (row := true) rfl (fun h => by cases h) rfl ?_
    | refine AW_not rfl rfl ?_
    | refine AW_build rfl tb_num rfl ?_
    | refine AW_call rfl rfl (by first | exact k1) ?_
    | refine AW_ints rfl tu_nums ti_num ti_size ti_zero rfl rfl rfl (by first | exact .cons _ _ _ _ _ rfl (.cons _ _ _ _ _ rfl (.nil _)) | exact .cons _ _ _ _ _ rfl (.cons _ _ _ _ _ rfl (.cons _ _ _ _ _ rfl (.cons _ _ _ _ _ rfl (.nil _)))) | exact .cons _ _ _ _ _ rfl (.cons _ _ _ _ _ rfl (.cons _ _ _ _ _ rfl (.nil _))) | exact .cons _ _ _ _ _ rfl (.cons _ _ _ _ _ rfl (.cons _ _ _ _ _ rfl (.cons _ _ _ _ _ rfl (.cons _ _ _ _ _ rfl (.nil _)))))) ?_
    | refine AW_fieldAddr rfl tf_neg rfl rfl ?_ | refine AW_fieldAddr rfl tf_mag rfl rfl ?_ | refine AW_load rfl ty_bool rfl rfl rfl rfl ?_ | refine AW_load rfl ty_mag rfl rfl rfl rfl ?_ | refine AW_beq rfl Tryz.underlying4 rfl rfl ?_ | refine AW_bne rfl Tryz.underlying4 rfl rfl ?_ | refine AW_len rfl rfl Tryz.underlying22 ?_ | refine AW_ge rfl rfl rfl ?_ | refine AW_gt rfl rfl rfl ?_ | refine AW_quiet rfl (q_convE rfl Tryz.underlying3 Tryz.underlying85 hw) ?_ | refine AW_quiet rfl (q_limb1 rfl hlt) ?_
    | refine AW_pickT rfl rfl rfl ?_
    | refine AW_pickF rfl rfl rfl ?_
    | refine AW_skip rfl rfl rfl rfl ?_
    | refine AW_pickTg rfl rfl rfl rfl rfl rfl ?_
    | refine AW_pickFg rfl rfl rfl rfl rfl rfl ?_
    | refine AW_moveg rfl rfl rfl rfl rfl ?_
    | refine AW_notg rfl rfl rfl rfl rfl ?_
    | refine AW_eqg rfl rfl rfl rfl rfl rfl ?_
    | refine AW_eq rfl rfl rfl ?_
    | refine AW_loadg rfl rfl rfl rfl ty_num rfl rfl rfl rfl ?_
    | refine AW_callg rfl rfl rfl rfl rfl (by first | exact k1) ?_
    | refine AW_nil (fun (h : false = true) => by cases h) ?_
    | refine AW_nil (fun (_ : true = true) => by kernel_rfl) ?_
    | refine Wp_block ?_
    | refine Wp_skip ?_
    | refine Wp_exit ?_
    | refine Wp_ret ?_
  exact ⟨.inr rfl, _, .cell _ _ _ _ _ _ _ _ _ _ _ ty_num rfl rfl rfl .nil, rfl⟩
theorem ct_mark1 (i : Nat) (hi : i ≤ 1000000000000) : Ct Tryz.prog 78 [.val (aI 1), .val (aI (i : Int))] (aNum (false, [markN i])) := by
  have := ct_markInt 1 i (by omega) hi
  rwa [markK_one] at this
/-! ### lent lists -/
def lentCs : List Raw → List AC
  | [] => []
  | x :: xs => .b x.1 :: .st (lentP x.2) :: lentCs xs
theorem lentCs_append : ∀ xs ys, lentCs (xs ++ ys) = lentCs xs ++ lentCs ys
  | [], _ => rfl
  | x :: xs, ys => by simp [lentCs, lentCs_append xs ys]
theorem lentCs_length : ∀ xs, (lentCs xs).length = 2 * xs.length
  | [] => rfl
  | x :: xs => by simp [lentCs, lentCs_length xs]; omega
theorem lentCs_nop : ∀ xs, ∀ c ∈ lentCs xs, c.nop = true
  | [], c, h => by cases h
  | x :: xs, c, h => by
    simp only [lentCs, List.mem_cons] at h
    rcases h with rfl | rfl | h
    · rfl
    · rfl
    · exact lentCs_nop xs c h
def marksR (n : Nat) : List Raw := (List.range n).map fun i => (false, [markN i])
theorem marksR_length (n : Nat) : (marksR n).length = n := by simp [marksR]
theorem marksR_succ (n : Nat) : marksR (n + 1) = marksR n ++ [(false, [markN n])] := by simp [marksR, List.range_succ]
theorem zero2_succ (n : Nat) : zero2 (n + 1) = (false, []) :: zero2 n := rfl
def lentRow (xs : List Raw) : List AC := lentCs xs ++ numCs (marksR 12)
theorem lentRow_nop (xs : List Raw) : ∀ c ∈ lentRow xs, c.nop = true := by
  intro c h
  rcases List.mem_append.1 h with h | h
  · exact lentCs_nop _ c h
  · exact numCs_nop _ c h
/-- A list as it is lent. -/
abbrev aLents (xs : List Raw) : AR := .val (.one (.st (rowC xs.length (xs.length + 12) (lentRow xs) (lentRow_nop xs))))
theorem take_get {α : Type} {xs : List α} {k : Nat} {x : α} (hx : xs[k]? = some x) : xs.take (k + 1) = xs.take k ++ [x] := by
  have h := List.getElem?_eq_some_iff.1 hx
  rw [List.take_succ_eq_append_getElem h.1, h.2]
theorem lay_lent {xs : List Raw} {k n : Nat} {x : Raw} (hx : xs[k]? = some x) (hn : xs.length + 12 - k = n + 1) : layO (lentCs (xs.take k) ++ numCs (zero2 (xs.length + 12 - k))) (k * 2) [.b x.1, .st (lentP x.2)] = some (lentCs (xs.take (k + 1)) ++ numCs (zero2 n)) := by
  have hk := (List.getElem?_eq_some_iff.1 hx).1
  have h := layO_app (lentCs (xs.take k)) [.b x.1, .st (lentP x.2)] (numCs (zero2 n)) [.b false, .st (magP [])] rfl
  rw [lentCs_length, List.length_take, Nat.min_eq_left (by omega), Nat.mul_comm] at h
  rw [hn, zero2_succ, take_get hx, lentCs_append]
  simpa [numCs, lentCs] using h
theorem lay_mark {xs : List Raw} {i n : Nat} (hn : 12 - i = n + 1) : layO (lentCs xs ++ numCs (marksR i ++ zero2 (12 - i))) ((xs.length + i) * 2) [.b false, .st (magP [markN i])] = some (lentCs xs ++ numCs (marksR (i + 1) ++ zero2 n)) := by
  have h := layO_app (lentCs xs ++ numCs (marksR i)) [.b false, .st (magP [markN i])] (numCs (zero2 n)) [.b false, .st (magP [])] rfl
  rw [List.length_append, lentCs_length, numCs_length, marksR_length, ← Nat.mul_add, Nat.mul_comm] at h
  rw [hn, zero2_succ, marksR_succ]
  simpa [numCs, numCs_append] using h
theorem nop_lowB {c : AC} {nb : Nat} (h : c.nop = true) : c.lowB nb = true := by cases c <;> first | rfl | cases h
theorem lowB1 {tm : List (Nat × AR)} {nb : Nat} {t : TypeId} {cs : List AC} (h1 : (tm.all fun p => p.2.lowB nb) = true) (h2 : Nat.blt 0 nb = true) (hn : ∀ c ∈ cs, c.nop = true) : ASt.lowB ⟨tm, [(0, t, cs)], nb⟩ = true := by
  have h3 : cs.all (AC.lowB nb) = true := List.all_eq_true.2 fun c hc => nop_lowB (hn c hc)
  simp [ASt.lowB, h1, h2, h3]
theorem nop_two {xs ys : List Raw} : ∀ c ∈ lentCs xs ++ numCs ys, c.nop = true := by
  intro c h
  rcases List.mem_append.1 h with h | h
  · exact lentCs_nop _ c h
  · exact numCs_nop _ c h
set_option maxHeartbeats 1000000 in
set_option maxRecDepth 100000 in
theorem ct_LentWholes (xs : List Raw) (hl : xs.length ≤ 1000) (hs : ∀ x ∈ xs, x.2.length ≤ 1099511627776) : Ct Tryz.prog 33 [.val (.one (.st (polyP xs)))] (aLents xs) := by
  refine ct_of_wp [.tmp 2] [(0, .val (.one (.st (polyP xs))))] 39 Tryz.func33 rfl rfl rfl rfl rfl rfl rfl rfl ?_
  intro G0 w0
  have hE : IntKind.i64.wrap ((xs.length : Int) + 12) = ((xs.length + 12 : Nat) : Int) := by rw [IntKind.wrap_i64]; omega
  have hz := tm_nums (xs.length + 12) (by omega)
  have k0 := ct_LentInt (false, []) (by simp)
  repeat first
    | refine Wp_seq ?_
    | refine Wp_region tm_mixed ?_
    | refine AW_move rfl rfl ?_
    | refine AW_assign rfl rfl ?_
    | refine AW_load rfl ty_num rfl rfl rfl rfl ?_
    | refine AW_store ty_num rfl rfl rfl rfl rfl rfl rfl ?_
    | refine AW_extract rfl rfl rfl ?_
    | refine AW_alloc rfl tz_num ?_
    | refine AW_box rfl rfl (row := true) rfl (fun h => by cases h) rfl ?_
    | refine AW_not rfl rfl ?_
    | refine AW_build rfl tb_num rfl ?_
    | refine AW_call rfl rfl (by first | exact k0) ?_
    | refine AW_ints rfl tu_nums ti_num ti_size ti_zero rfl rfl rfl (by first | exact .cons _ _ _ _ _ rfl (.cons _ _ _ _ _ rfl (.nil _)) | exact .cons _ _ _ _ _ rfl (.cons _ _ _ _ _ rfl (.cons _ _ _ _ _ rfl (.cons _ _ _ _ _ rfl (.nil _)))) | exact .cons _ _ _ _ _ rfl (.cons _ _ _ _ _ rfl (.cons _ _ _ _ _ rfl (.nil _))) | exact .cons _ _ _ _ _ rfl (.cons _ _ _ _ _ rfl (.cons _ _ _ _ _ rfl (.cons _ _ _ _ _ rfl (.cons _ _ _ _ _ rfl (.nil _)))))) ?_
    | refine AW_fieldAddr rfl tf_neg rfl rfl ?_ | refine AW_fieldAddr rfl tf_mag rfl rfl ?_ | refine AW_load rfl ty_bool rfl rfl rfl rfl ?_ | refine AW_load rfl ty_mag rfl rfl rfl rfl ?_ | refine AW_beq rfl Tryz.underlying4 rfl rfl ?_ | refine AW_bne rfl Tryz.underlying4 rfl rfl ?_ | refine AW_len rfl rfl Tryz.underlying22 ?_ | refine AW_ge rfl rfl rfl ?_ | refine AW_gt rfl rfl rfl ?_ | refine AW_lenPoly rfl rfl tu_nums ?_ | refine AW_quiet rfl (q_addE rfl rfl hE) ?_ | refine AW_mk (len := 0) (cap := xs.length + 12) rfl hz rfl rfl (Nat.zero_le _) ?_
    | refine AW_pickT rfl rfl rfl ?_
    | refine AW_pickF rfl rfl rfl ?_
    | refine AW_skip rfl rfl rfl rfl ?_
    | refine AW_pickTg rfl rfl rfl rfl rfl rfl ?_
    | refine AW_pickFg rfl rfl rfl rfl rfl rfl ?_
    | refine AW_moveg rfl rfl rfl rfl rfl ?_
    | refine AW_notg rfl rfl rfl rfl rfl ?_
    | refine AW_eqg rfl rfl rfl rfl rfl rfl ?_
    | refine AW_eq rfl rfl rfl ?_
    | refine AW_loadg rfl rfl rfl rfl ty_num rfl rfl rfl rfl ?_
    | refine AW_callg rfl rfl rfl rfl rfl (by first | exact k0) ?_
    | refine AW_nil (fun (h : false = true) => by cases h) ?_
    | refine AW_nil (fun (_ : true = true) => by kernel_rfl) ?_
    | refine Wp_block ?_
    | refine Wp_skip ?_
    | refine Wp_exit ?_
    | refine Wp_ret ?_
  refine Wp_loop (fun k : Nat => ⟨[(0, .val (.one (.st (polyP xs)))), (3, .val (.one (.sl 0 0 k (xs.length + 12)))), (4, .val (aI (k : Int)))], [(0, 24, lentCs (xs.take k) ++ numCs (zero2 (xs.length + 12 - k)))], 1⟩) (fun k => k ≤ xs.length) (fun k => xs.length - k) 0 (by omega) (le_of ⟨rfl, rfl, rfl, trivial⟩ ⟨rfl, trivial⟩ ?_) ?_
  · exact lowB1 rfl rfl nop_two
  · intro k hk
    repeat first
      | refine Wp_seq ?_
      | refine Wp_region tm_mixed ?_
      | refine AW_move rfl rfl ?_
      | refine AW_assign rfl rfl ?_
      | refine AW_load rfl ty_num rfl rfl rfl rfl ?_
      | refine AW_store ty_num rfl rfl rfl rfl rfl rfl rfl ?_
      | refine AW_extract rfl rfl rfl ?_
      | refine AW_alloc rfl tz_num ?_
      | refine AW_box rfl rfl (row := true) rfl (fun h => by cases h) rfl ?_
      | refine AW_not rfl rfl ?_
      | refine AW_build rfl tb_num rfl ?_
      | refine AW_call rfl rfl (by first | exact k0) ?_
      | refine AW_ints rfl tu_nums ti_num ti_size ti_zero rfl rfl rfl (by first | exact .cons _ _ _ _ _ rfl (.cons _ _ _ _ _ rfl (.nil _)) | exact .cons _ _ _ _ _ rfl (.cons _ _ _ _ _ rfl (.cons _ _ _ _ _ rfl (.cons _ _ _ _ _ rfl (.nil _)))) | exact .cons _ _ _ _ _ rfl (.cons _ _ _ _ _ rfl (.cons _ _ _ _ _ rfl (.nil _))) | exact .cons _ _ _ _ _ rfl (.cons _ _ _ _ _ rfl (.cons _ _ _ _ _ rfl (.cons _ _ _ _ _ rfl (.cons _ _ _ _ _ rfl (.nil _)))))) ?_
      | refine AW_fieldAddr rfl tf_neg rfl rfl ?_ | refine AW_fieldAddr rfl tf_mag rfl rfl ?_ | refine AW_load rfl ty_bool rfl rfl rfl rfl ?_ | refine AW_load rfl ty_mag rfl rfl rfl rfl ?_ | refine AW_beq rfl Tryz.underlying4 rfl rfl ?_ | refine AW_bne rfl Tryz.underlying4 rfl rfl ?_ | refine AW_len rfl rfl Tryz.underlying22 ?_ | refine AW_ge rfl rfl rfl ?_ | refine AW_gt rfl rfl rfl ?_ | refine AW_lenPoly rfl rfl tu_nums ?_ | refine AW_lt rfl rfl rfl ?_
      | refine AW_pickT rfl rfl rfl ?_
      | refine AW_pickF rfl rfl rfl ?_
      | refine AW_skip rfl rfl rfl rfl ?_
      | refine AW_pickTg rfl rfl rfl rfl rfl rfl ?_
      | refine AW_pickFg rfl rfl rfl rfl rfl rfl ?_
      | refine AW_moveg rfl rfl rfl rfl rfl ?_
      | refine AW_notg rfl rfl rfl rfl rfl ?_
      | refine AW_eqg rfl rfl rfl rfl rfl rfl ?_
      | refine AW_eq rfl rfl rfl ?_
      | refine AW_loadg rfl rfl rfl rfl ty_num rfl rfl rfl rfl ?_
      | refine AW_callg rfl rfl rfl rfl rfl (by first | exact k0) ?_
      | refine AW_nil (fun (h : false = true) => by cases h) ?_
      | refine AW_nil (fun (_ : true = true) => by kernel_rfl) ?_
      | refine Wp_block ?_
      | refine Wp_skip ?_
      | refine Wp_exit ?_
      | refine Wp_ret ?_
    refine Wp_cond rfl (fun hc => ?_) (fun hc => ?_)
    · have hlt : k < xs.length := by simpa using hc
      obtain ⟨x, hx⟩ : ∃ x, xs[k]? = some x := ⟨_, List.getElem?_eq_getElem hlt⟩
      have kL := ct_LentInt x (hs x (List.mem_of_getElem? hx))
      have hlay : layO (lentCs (xs.take k) ++ numCs (zero2 (xs.length + 12 - k))) (k * ((Tryz.prog.info? 24).getD default).size) [.b x.1, .st (lentP x.2)] = some (lentCs (xs.take (k + 1)) ++ numCs (zero2 (xs.length + 12 - (k + 1)))) := by
        rw [ti_size]
        exact lay_lent hx (by omega)
      have hroom : k + 1 ≤ xs.length + 12 := by omega
      have hE' : IntKind.i64.wrap ((k : Int) + 1) = ((k + 1 : Nat) : Int) := by rw [IntKind.wrap_i64]; omega
      have hnl : ∀ c ∈ [AC.b x.1, AC.st (lentP x.2)], c.nop = true := nop_all rfl
      repeat first
        | refine Wp_seq ?_
        | refine Wp_region tm_mixed ?_
        | refine AW_move rfl rfl ?_
        | refine AW_assign rfl rfl ?_
        | refine AW_load rfl ty_num rfl rfl rfl rfl ?_
        | refine AW_store ty_num rfl rfl rfl rfl rfl rfl rfl ?_
        | refine AW_extract rfl rfl rfl ?_
        | refine AW_alloc rfl tz_num ?_
        | refine AW_box rfl rfl (row := true) rfl (fun h => by cases h) rfl ?_
        | refine AW_not rfl rfl ?_
        | refine AW_build rfl tb_num rfl ?_
        | refine AW_call rfl rfl (by first | exact kL) ?_
        | refine AW_ints rfl tu_nums ti_num ti_size ti_zero rfl rfl rfl (by first | exact .cons _ _ _ _ _ rfl (.cons _ _ _ _ _ rfl (.nil _)) | exact .cons _ _ _ _ _ rfl (.cons _ _ _ _ _ rfl (.cons _ _ _ _ _ rfl (.cons _ _ _ _ _ rfl (.nil _)))) | exact .cons _ _ _ _ _ rfl (.cons _ _ _ _ _ rfl (.cons _ _ _ _ _ rfl (.nil _))) | exact .cons _ _ _ _ _ rfl (.cons _ _ _ _ _ rfl (.cons _ _ _ _ _ rfl (.cons _ _ _ _ _ rfl (.cons _ _ _ _ _ rfl (.nil _)))))) ?_
        | refine AW_fieldAddr rfl tf_neg rfl rfl ?_ | refine AW_fieldAddr rfl tf_mag rfl rfl ?_ | refine AW_load rfl ty_bool rfl rfl rfl rfl ?_ | refine AW_load rfl ty_mag rfl rfl rfl rfl ?_ | refine AW_beq rfl Tryz.underlying4 rfl rfl ?_ | refine AW_bne rfl Tryz.underlying4 rfl rfl ?_ | refine AW_len rfl rfl Tryz.underlying22 ?_ | refine AW_ge rfl rfl rfl ?_ | refine AW_gt rfl rfl rfl ?_ | refine AW_polyAt rfl tu_nums ts_num rfl rfl hx ?_ | refine AW_recAt rfl ty_num rfl ?_ | refine AW_quiet rfl (q_row1 hnl rfl tu_nums ti_num ti_size ti_zero (fun h => by cases h) (Nat.le_of_ble_eq_true rfl)) ?_ | refine AW_app rfl tu_nums ti_num rfl rfl rfl (by rw [ti_size]; rfl) hroom hlay rfl ?_ | refine AW_quiet rfl (q_addE rfl rfl hE') ?_
        | refine AW_pickT rfl rfl rfl ?_
        | refine AW_pickF rfl rfl rfl ?_
        | refine AW_skip rfl rfl rfl rfl ?_
        | refine AW_pickTg rfl rfl rfl rfl rfl rfl ?_
        | refine AW_pickFg rfl rfl rfl rfl rfl rfl ?_
        | refine AW_moveg rfl rfl rfl rfl rfl ?_
        | refine AW_notg rfl rfl rfl rfl rfl ?_
        | refine AW_eqg rfl rfl rfl rfl rfl rfl ?_
        | refine AW_eq rfl rfl rfl ?_
        | refine AW_loadg rfl rfl rfl rfl ty_num rfl rfl rfl rfl ?_
        | refine AW_callg rfl rfl rfl rfl rfl (by first | exact kL) ?_
        | refine AW_nil (fun (h : false = true) => by cases h) ?_
        | refine AW_nil (fun (_ : true = true) => by kernel_rfl) ?_
        | refine Wp_block ?_
        | refine Wp_skip ?_
        | refine Wp_exit ?_
        | refine Wp_ret ?_
      exact ⟨k + 1, hlt, le_of ⟨rfl, rfl, rfl, trivial⟩ ⟨rfl, trivial⟩ (lowB1 rfl rfl nop_two), by omega⟩
    · have hge : k = xs.length := by have : ¬ k < xs.length := by simpa using hc
                                     omega
      subst hge
      repeat first
        | refine Wp_seq ?_
        | refine Wp_region tm_mixed ?_
        | refine AW_move rfl rfl ?_
        | refine AW_assign rfl rfl ?_
        | refine AW_load rfl ty_num rfl rfl rfl rfl ?_
        | refine AW_store ty_num rfl rfl rfl rfl rfl rfl rfl ?_
        | refine AW_extract rfl rfl rfl ?_
        | refine AW_alloc rfl tz_num ?_
        | refine AW_box rfl rfl (row := true) rfl (fun h => by cases h) rfl ?_
        | refine AW_not rfl rfl ?_
        | refine AW_build rfl tb_num rfl ?_
        | refine AW_call rfl rfl (by first | exact k0) ?_
        | refine AW_ints rfl tu_nums ti_num ti_size ti_zero rfl rfl rfl (by first | exact .cons _ _ _ _ _ rfl (.cons _ _ _ _ _ rfl (.nil _)) | exact .cons _ _ _ _ _ rfl (.cons _ _ _ _ _ rfl (.cons _ _ _ _ _ rfl (.cons _ _ _ _ _ rfl (.nil _)))) | exact .cons _ _ _ _ _ rfl (.cons _ _ _ _ _ rfl (.cons _ _ _ _ _ rfl (.nil _))) | exact .cons _ _ _ _ _ rfl (.cons _ _ _ _ _ rfl (.cons _ _ _ _ _ rfl (.cons _ _ _ _ _ rfl (.cons _ _ _ _ _ rfl (.nil _)))))) ?_
        | refine AW_fieldAddr rfl tf_neg rfl rfl ?_ | refine AW_fieldAddr rfl tf_mag rfl rfl ?_ | refine AW_load rfl ty_bool rfl rfl rfl rfl ?_ | refine AW_load rfl ty_mag rfl rfl rfl rfl ?_ | refine AW_beq rfl Tryz.underlying4 rfl rfl ?_ | refine AW_bne rfl Tryz.underlying4 rfl rfl ?_ | refine AW_len rfl rfl Tryz.underlying22 ?_ | refine AW_ge rfl rfl rfl ?_ | refine AW_gt rfl rfl rfl ?_
        | refine AW_pickT rfl rfl rfl ?_
        | refine AW_pickF rfl rfl rfl ?_
        | refine AW_skip rfl rfl rfl rfl ?_
        | refine AW_pickTg rfl rfl rfl rfl rfl rfl ?_
        | refine AW_pickFg rfl rfl rfl rfl rfl rfl ?_
        | refine AW_moveg rfl rfl rfl rfl rfl ?_
        | refine AW_notg rfl rfl rfl rfl rfl ?_
        | refine AW_eqg rfl rfl rfl rfl rfl rfl ?_
        | refine AW_eq rfl rfl rfl ?_
        | refine AW_loadg rfl rfl rfl rfl ty_num rfl rfl rfl rfl ?_
        | refine AW_callg rfl rfl rfl rfl rfl (by first | exact k0) ?_
        | refine AW_nil (fun (h : false = true) => by cases h) ?_
        | refine AW_nil (fun (_ : true = true) => by kernel_rfl) ?_
        | refine Wp_block ?_
        | refine Wp_skip ?_
        | refine Wp_exit ?_
        | refine Wp_ret ?_
      refine Wp_loop (fun i : Nat => ⟨[(0, .val (.one (.st (polyP xs)))), (3, .val (.one (.sl 0 0 (xs.length + i) (xs.length + 12)))), (6, .val (aI (i : Int)))], [(0, 24, lentCs xs ++ numCs (marksR i ++ zero2 (12 - i)))], 1⟩) (fun i => i ≤ 12) (fun i => 12 - i) 0 (by omega) (le_of ⟨rfl, rfl, rfl, trivial⟩ ⟨?_, trivial⟩ (lowB1 rfl rfl nop_two)) ?_
      · rw [List.take_of_length_le (Nat.le_refl _), Nat.add_sub_cancel_left]
        rfl
      · intro i hi
        repeat first
          | refine Wp_seq ?_
          | refine Wp_region tm_mixed ?_
          | refine AW_move rfl rfl ?_
          | refine AW_assign rfl rfl ?_
          | refine AW_load rfl ty_num rfl rfl rfl rfl ?_
          | refine AW_store ty_num rfl rfl rfl rfl rfl rfl rfl ?_
          | refine AW_extract rfl rfl rfl ?_
          | refine AW_alloc rfl tz_num ?_
          | refine AW_box rfl rfl (row := true) rfl (fun h => by cases h) rfl ?_
          | refine AW_not rfl rfl ?_
          | refine AW_build rfl tb_num rfl ?_
          | refine AW_call rfl rfl (by first | exact k0) ?_
          | refine AW_ints rfl tu_nums ti_num ti_size ti_zero rfl rfl rfl (by first | exact .cons _ _ _ _ _ rfl (.cons _ _ _ _ _ rfl (.nil _)) | exact .cons _ _ _ _ _ rfl (.cons _ _ _ _ _ rfl (.cons _ _ _ _ _ rfl (.cons _ _ _ _ _ rfl (.nil _)))) | exact .cons _ _ _ _ _ rfl (.cons _ _ _ _ _ rfl (.cons _ _ _ _ _ rfl (.nil _))) | exact .cons _ _ _ _ _ rfl (.cons _ _ _ _ _ rfl (.cons _ _ _ _ _ rfl (.cons _ _ _ _ _ rfl (.cons _ _ _ _ _ rfl (.nil _)))))) ?_
          | refine AW_fieldAddr rfl tf_neg rfl rfl ?_ | refine AW_fieldAddr rfl tf_mag rfl rfl ?_ | refine AW_load rfl ty_bool rfl rfl rfl rfl ?_ | refine AW_load rfl ty_mag rfl rfl rfl rfl ?_ | refine AW_beq rfl Tryz.underlying4 rfl rfl ?_ | refine AW_bne rfl Tryz.underlying4 rfl rfl ?_ | refine AW_len rfl rfl Tryz.underlying22 ?_ | refine AW_ge rfl rfl rfl ?_ | refine AW_gt rfl rfl rfl ?_ | refine AW_lt rfl rfl rfl ?_
          | refine AW_pickT rfl rfl rfl ?_
          | refine AW_pickF rfl rfl rfl ?_
          | refine AW_skip rfl rfl rfl rfl ?_
          | refine AW_pickTg rfl rfl rfl rfl rfl rfl ?_
          | refine AW_pickFg rfl rfl rfl rfl rfl rfl ?_
          | refine AW_moveg rfl rfl rfl rfl rfl ?_
          | refine AW_notg rfl rfl rfl rfl rfl ?_
          | refine AW_eqg rfl rfl rfl rfl rfl rfl ?_
          | refine AW_eq rfl rfl rfl ?_
          | refine AW_loadg rfl rfl rfl rfl ty_num rfl rfl rfl rfl ?_
          | refine AW_callg rfl rfl rfl rfl rfl (by first | exact k0) ?_
          | refine AW_nil (fun (h : false = true) => by cases h) ?_
          | refine AW_nil (fun (_ : true = true) => by kernel_rfl) ?_
          | refine Wp_block ?_
          | refine Wp_skip ?_
          | refine Wp_exit ?_
          | refine Wp_ret ?_
        refine Wp_cond rfl (fun hd => ?_) (fun hd => ?_)
        · have hlt : i < 12 := by have := of_decide_eq_true hd; omega
          have kM := ct_mark1 i (by omega)
          have hlay : layO (lentCs xs ++ numCs (marksR i ++ zero2 (12 - i))) ((xs.length + i) * ((Tryz.prog.info? 24).getD default).size) [.b false, .st (magP [markN i])] = some (lentCs xs ++ numCs (marksR (i + 1) ++ zero2 (12 - (i + 1)))) := by
            rw [ti_size]
            exact lay_mark (by omega)
          have hroom : xs.length + i + 1 ≤ xs.length + 12 := by omega
          have hE' : IntKind.i64.wrap ((i : Int) + 1) = ((i + 1 : Nat) : Int) := by rw [IntKind.wrap_i64]; omega
          have hnl : ∀ c ∈ [AC.b false, AC.st (magP [markN i])], c.nop = true := nop_all rfl
          repeat first
            | refine Wp_seq ?_
            | refine Wp_region tm_mixed ?_
            | refine AW_move rfl rfl ?_
            | refine AW_assign rfl rfl ?_
            | refine AW_load rfl ty_num rfl rfl rfl rfl ?_
            | refine AW_store ty_num rfl rfl rfl rfl rfl rfl rfl ?_
            | refine AW_extract rfl rfl rfl ?_
            | refine AW_alloc rfl tz_num ?_
            | refine AW_box rfl rfl (row := true) rfl (fun h => by cases h) rfl ?_
            | refine AW_not rfl rfl ?_
            | refine AW_build rfl tb_num rfl ?_
            | refine AW_call rfl rfl (by first | exact kM) ?_
            | refine AW_ints rfl tu_nums ti_num ti_size ti_zero rfl rfl rfl (by first | exact .cons _ _ _ _ _ rfl (.cons _ _ _ _ _ rfl (.nil _)) | exact .cons _ _ _ _ _ rfl (.cons _ _ _ _ _ rfl (.cons _ _ _ _ _ rfl (.cons _ _ _ _ _ rfl (.nil _)))) | exact .cons _ _ _ _ _ rfl (.cons _ _ _ _ _ rfl (.cons _ _ _ _ _ rfl (.nil _))) | exact .cons _ _ _ _ _ rfl (.cons _ _ _ _ _ rfl (.cons _ _ _ _ _ rfl (.cons _ _ _ _ _ rfl (.cons _ _ _ _ _ rfl (.nil _)))))) ?_
            | refine AW_fieldAddr rfl tf_neg rfl rfl ?_ | refine AW_fieldAddr rfl tf_mag rfl rfl ?_ | refine AW_load rfl ty_bool rfl rfl rfl rfl ?_ | refine AW_load rfl ty_mag rfl rfl rfl rfl ?_ | refine AW_beq rfl Tryz.underlying4 rfl rfl ?_ | refine AW_bne rfl Tryz.underlying4 rfl rfl ?_ | refine AW_len rfl rfl Tryz.underlying22 ?_ | refine AW_ge rfl rfl rfl ?_ | refine AW_gt rfl rfl rfl ?_ | refine AW_quiet rfl (q_row1 hnl rfl tu_nums ti_num ti_size ti_zero (fun h => by cases h) (Nat.le_of_ble_eq_true rfl)) ?_ | refine AW_app rfl tu_nums ti_num rfl rfl rfl (by rw [ti_size]; rfl) hroom hlay rfl ?_ | refine AW_quiet rfl (q_addE rfl rfl hE') ?_
            | refine AW_pickT rfl rfl rfl ?_
            | refine AW_pickF rfl rfl rfl ?_
            | refine AW_skip rfl rfl rfl rfl ?_
            | refine AW_pickTg rfl rfl rfl rfl rfl rfl ?_
            | refine AW_pickFg rfl rfl rfl rfl rfl rfl ?_
            | refine AW_moveg rfl rfl rfl rfl rfl ?_
            | refine AW_notg rfl rfl rfl rfl rfl ?_
            | refine AW_eqg rfl rfl rfl rfl rfl rfl ?_
            | refine AW_eq rfl rfl rfl ?_
            | refine AW_loadg rfl rfl rfl rfl ty_num rfl rfl rfl rfl ?_
            | refine AW_callg rfl rfl rfl rfl rfl (by first | exact kM) ?_
            | refine AW_nil (fun (h : false = true) => by cases h) ?_
            | refine AW_nil (fun (_ : true = true) => by kernel_rfl) ?_
            | refine Wp_block ?_
            | refine Wp_skip ?_
            | refine Wp_exit ?_
            | refine Wp_ret ?_
          exact ⟨i + 1, hlt, le_of ⟨rfl, rfl, rfl, trivial⟩ ⟨rfl, trivial⟩ (lowB1 rfl rfl nop_two), by omega⟩
        · have hge : i = 12 := by have := of_decide_eq_false hd; omega
          subst hge
          refine Wp_le (le_pub (t := 3) (j := 0) (tm := [(0, .val (.one (.st (polyP xs))))]) (bx := []) (nb := 0) (lentRow_nop xs) rfl rfl ⟨rfl, trivial⟩ trivial rfl rfl) ?_
          repeat first
            | refine Wp_seq ?_
            | refine Wp_region tm_mixed ?_
            | refine AW_move rfl rfl ?_
            | refine AW_assign rfl rfl ?_
            | refine AW_load rfl ty_num rfl rfl rfl rfl ?_
            | refine AW_store ty_num rfl rfl rfl rfl rfl rfl rfl ?_
            | refine AW_extract rfl rfl rfl ?_
            | refine AW_alloc rfl tz_num ?_
            | refine AW_box rfl rfl (row := true) rfl (fun h => by cases h) rfl ?_
            | refine AW_not rfl rfl ?_
            | refine AW_build rfl tb_num rfl ?_
            | refine AW_call rfl rfl (by first | exact k0) ?_
            | refine AW_ints rfl tu_nums ti_num ti_size ti_zero rfl rfl rfl (by first | exact .cons _ _ _ _ _ rfl (.cons _ _ _ _ _ rfl (.nil _)) | exact .cons _ _ _ _ _ rfl (.cons _ _ _ _ _ rfl (.cons _ _ _ _ _ rfl (.cons _ _ _ _ _ rfl (.nil _)))) | exact .cons _ _ _ _ _ rfl (.cons _ _ _ _ _ rfl (.cons _ _ _ _ _ rfl (.nil _))) | exact .cons _ _ _ _ _ rfl (.cons _ _ _ _ _ rfl (.cons _ _ _ _ _ rfl (.cons _ _ _ _ _ rfl (.cons _ _ _ _ _ rfl (.nil _)))))) ?_
            | refine AW_fieldAddr rfl tf_neg rfl rfl ?_ | refine AW_fieldAddr rfl tf_mag rfl rfl ?_ | refine AW_load rfl ty_bool rfl rfl rfl rfl ?_ | refine AW_load rfl ty_mag rfl rfl rfl rfl ?_ | refine AW_beq rfl Tryz.underlying4 rfl rfl ?_ | refine AW_bne rfl Tryz.underlying4 rfl rfl ?_ | refine AW_len rfl rfl Tryz.underlying22 ?_ | refine AW_ge rfl rfl rfl ?_ | refine AW_gt rfl rfl rfl ?_ | refine AW_lenPoly rfl rfl tu_nums ?_ | refine AW_quiet rfl (q_rowCCut rfl rfl (Nat.le_add_right _ _) tu_nums ts_num) ?_
            | refine AW_pickT rfl rfl rfl ?_
            | refine AW_pickF rfl rfl rfl ?_
            | refine AW_skip rfl rfl rfl rfl ?_
            | refine AW_pickTg rfl rfl rfl rfl rfl rfl ?_
            | refine AW_pickFg rfl rfl rfl rfl rfl rfl ?_
            | refine AW_moveg rfl rfl rfl rfl rfl ?_
            | refine AW_notg rfl rfl rfl rfl rfl ?_
            | refine AW_eqg rfl rfl rfl rfl rfl rfl ?_
            | refine AW_eq rfl rfl rfl ?_
            | refine AW_loadg rfl rfl rfl rfl ty_num rfl rfl rfl rfl ?_
            | refine AW_callg rfl rfl rfl rfl rfl (by first | exact k0) ?_
            | refine AW_nil (fun (h : false = true) => by cases h) ?_
            | refine AW_nil (fun (_ : true = true) => by kernel_rfl) ?_
            | refine Wp_block ?_
            | refine Wp_skip ?_
            | refine Wp_exit ?_
            | refine Wp_ret ?_
          exact ⟨.inr rfl, _, .tmp _ _ _ _ rfl .nil, rfl⟩
theorem rd_lent {xs : List Raw} {k : Nat} {x : Raw} (hx : xs[k]? = some x) : rdO (lentRow xs) (k * 2) 2 = some [.b x.1, .st (lentP x.2)] := by
  have hk := List.getElem?_eq_some_iff.1 hx
  have hk1 := hk.1
  have e : xs = xs.take k ++ x :: xs.drop (k + 1) := by
    rw [← hk.2, List.getElem_cons_drop, List.take_append_drop]
  have h := rdO_app (lentCs (xs.take k)) [.b x.1, .st (lentP x.2)] (lentCs (xs.drop (k + 1)) ++ numCs (marksR 12))
  rw [lentCs_length, List.length_take, Nat.min_eq_left (by omega), Nat.mul_comm] at h
  have e2 : lentRow xs = lentCs (xs.take k) ++ [.b x.1, .st (lentP x.2)] ++ (lentCs (xs.drop (k + 1)) ++ numCs (marksR 12)) := by
    unfold lentRow
    conv => lhs; rw [e, lentCs_append]
    simp [lentCs]
  rw [e2]
  exact h
theorem rd_mark {xs : List Raw} {i : Nat} (hi : i < 12) : rdO (lentRow xs) ((xs.length + i) * 2) 2 = some [.b false, .st (magP [markN i])] := by
  have e : ∃ B, marksR 12 = marksR i ++ (false, [markN i]) :: B := by
    refine ⟨(marksR 12).drop (i + 1), ?_⟩
    have h1 : (marksR 12)[i]? = some (false, [markN i]) := by simp [marksR, hi]
    have h2 : (marksR 12).take i = marksR i := by simp [marksR, ← List.map_take, List.take_range, Nat.min_eq_left (Nat.le_of_lt hi)]
    have h3 := List.getElem?_eq_some_iff.1 h1
    rw [← h2, ← h3.2, List.getElem_cons_drop, List.take_append_drop]
  obtain ⟨B, e⟩ := e
  have h := rdO_app (lentCs xs ++ numCs (marksR i)) [.b false, .st (magP [markN i])] (numCs B)
  rw [List.length_append, lentCs_length, numCs_length, marksR_length, ← Nat.mul_add, Nat.mul_comm] at h
  unfold lentRow
  rw [e, numCs_append]
  simpa [numCs] using h
set_option maxHeartbeats 1000000 in
set_option maxRecDepth 100000 in
theorem ct_KeptWholes (xs : List Raw) (hl : xs.length ≤ 1000) (hs : ∀ x ∈ xs, x.2.length ≤ 1099511627776) : Ct Tryz.prog 36 [aLents xs, .val (.one (.st (polyP xs)))] (.val (aB true)) := by
  refine ct_of_wp [.tmp 4] [(0, aLents xs), (1, .val (.one (.st (polyP xs))))] 58 Tryz.func36 rfl rfl rfl rfl rfl rfl rfl rfl ?_
  intro G0 w0
  have hE : IntKind.i64.wrap ((xs.length : Int) + 12) = ((xs.length + 12 : Nat) : Int) := by rw [IntKind.wrap_i64]; omega
  have k0 := ct_LentInt (false, []) (by simp)
  repeat first
    | refine Wp_seq ?_
    | refine Wp_region tm_mixed ?_
    | refine AW_move rfl rfl ?_
    | refine AW_assign rfl rfl ?_
    | refine AW_load rfl ty_num rfl rfl rfl rfl ?_
    | refine AW_store ty_num rfl rfl rfl rfl rfl rfl rfl ?_
    | refine AW_extract rfl rfl rfl ?_
    | refine AW_alloc rfl tz_num ?_
    | refine AW_box rfl rfl (row := true) rfl (fun h => by cases h) rfl ?_
    | refine AW_not rfl rfl ?_
    | refine AW_build rfl tb_num rfl ?_
    | refine AW_call rfl rfl (by first | exact k0) ?_
    | refine AW_ints rfl tu_nums ti_num ti_size ti_zero rfl rfl rfl (by first | exact .cons _ _ _ _ _ rfl (.cons _ _ _ _ _ rfl (.nil _)) | exact .cons _ _ _ _ _ rfl (.cons _ _ _ _ _ rfl (.cons _ _ _ _ _ rfl (.cons _ _ _ _ _ rfl (.nil _)))) | exact .cons _ _ _ _ _ rfl (.cons _ _ _ _ _ rfl (.cons _ _ _ _ _ rfl (.nil _))) | exact .cons _ _ _ _ _ rfl (.cons _ _ _ _ _ rfl (.cons _ _ _ _ _ rfl (.cons _ _ _ _ _ rfl (.cons _ _ _ _ _ rfl (.nil _)))))) ?_
    | refine AW_fieldAddr rfl tf_neg rfl rfl ?_ | refine AW_fieldAddr rfl tf_mag rfl rfl ?_ | refine AW_load rfl ty_bool rfl rfl rfl rfl ?_ | refine AW_load rfl ty_mag rfl rfl rfl rfl ?_ | refine AW_beq rfl Tryz.underlying4 rfl rfl ?_ | refine AW_bne rfl Tryz.underlying4 rfl rfl ?_ | refine AW_len rfl rfl Tryz.underlying22 ?_ | refine AW_ge rfl rfl rfl ?_ | refine AW_gt rfl rfl rfl ?_ | refine AW_lenPoly rfl rfl tu_nums ?_ | refine AW_quiet rfl (q_lenC rfl rfl tu_nums) ?_ | refine AW_ne rfl rfl rfl ?_
    | refine AW_pickT rfl rfl rfl ?_
    | refine AW_pickF rfl rfl rfl ?_
    | refine AW_skip rfl rfl rfl rfl ?_
    | refine AW_pickTg rfl rfl rfl rfl rfl rfl ?_
    | refine AW_pickFg rfl rfl rfl rfl rfl rfl ?_
    | refine AW_moveg rfl rfl rfl rfl rfl ?_
    | refine AW_notg rfl rfl rfl rfl rfl ?_
    | refine AW_eqg rfl rfl rfl rfl rfl rfl ?_
    | refine AW_eq rfl rfl rfl ?_
    | refine AW_loadg rfl rfl rfl rfl ty_num rfl rfl rfl rfl ?_
    | refine AW_callg rfl rfl rfl rfl rfl (by first | exact k0) ?_
    | refine AW_nil (fun (h : false = true) => by cases h) ?_
    | refine AW_nil (fun (_ : true = true) => by kernel_rfl) ?_
    | refine Wp_block ?_
    | refine Wp_skip ?_
    | refine Wp_exit ?_
    | refine Wp_ret ?_
  refine Wp_cond rfl (fun hc => ?_) (fun _ => ?_)
  · exact absurd hc (by simp)
  repeat first
    | refine Wp_seq ?_
    | refine Wp_region tm_mixed ?_
    | refine AW_move rfl rfl ?_
    | refine AW_assign rfl rfl ?_
    | refine AW_load rfl ty_num rfl rfl rfl rfl ?_
    | refine AW_store ty_num rfl rfl rfl rfl rfl rfl rfl ?_
    | refine AW_extract rfl rfl rfl ?_
    | refine AW_alloc rfl tz_num ?_
    | refine AW_box rfl rfl (row := true) rfl (fun h => by cases h) rfl ?_
    | refine AW_not rfl rfl ?_
    | refine AW_build rfl tb_num rfl ?_
    | refine AW_call rfl rfl (by first | exact k0) ?_
    | refine AW_ints rfl tu_nums ti_num ti_size ti_zero rfl rfl rfl (by first | exact .cons _ _ _ _ _ rfl (.cons _ _ _ _ _ rfl (.nil _)) | exact .cons _ _ _ _ _ rfl (.cons _ _ _ _ _ rfl (.cons _ _ _ _ _ rfl (.cons _ _ _ _ _ rfl (.nil _)))) | exact .cons _ _ _ _ _ rfl (.cons _ _ _ _ _ rfl (.cons _ _ _ _ _ rfl (.nil _))) | exact .cons _ _ _ _ _ rfl (.cons _ _ _ _ _ rfl (.cons _ _ _ _ _ rfl (.cons _ _ _ _ _ rfl (.cons _ _ _ _ _ rfl (.nil _)))))) ?_
    | refine AW_fieldAddr rfl tf_neg rfl rfl ?_ | refine AW_fieldAddr rfl tf_mag rfl rfl ?_ | refine AW_load rfl ty_bool rfl rfl rfl rfl ?_ | refine AW_load rfl ty_mag rfl rfl rfl rfl ?_ | refine AW_beq rfl Tryz.underlying4 rfl rfl ?_ | refine AW_bne rfl Tryz.underlying4 rfl rfl ?_ | refine AW_len rfl rfl Tryz.underlying22 ?_ | refine AW_ge rfl rfl rfl ?_ | refine AW_gt rfl rfl rfl ?_ | refine AW_lenPoly rfl rfl tu_nums ?_ | refine AW_quiet rfl (q_addE rfl rfl hE) ?_ | refine AW_quiet rfl (q_rowCCut rfl rfl (Nat.le_refl _) tu_nums ts_num) ?_
    | refine AW_pickT rfl rfl rfl ?_
    | refine AW_pickF rfl rfl rfl ?_
    | refine AW_skip rfl rfl rfl rfl ?_
    | refine AW_pickTg rfl rfl rfl rfl rfl rfl ?_
    | refine AW_pickFg rfl rfl rfl rfl rfl rfl ?_
    | refine AW_moveg rfl rfl rfl rfl rfl ?_
    | refine AW_notg rfl rfl rfl rfl rfl ?_
    | refine AW_eqg rfl rfl rfl rfl rfl rfl ?_
    | refine AW_eq rfl rfl rfl ?_
    | refine AW_loadg rfl rfl rfl rfl ty_num rfl rfl rfl rfl ?_
    | refine AW_callg rfl rfl rfl rfl rfl (by first | exact k0) ?_
    | refine AW_nil (fun (h : false = true) => by cases h) ?_
    | refine AW_nil (fun (_ : true = true) => by kernel_rfl) ?_
    | refine Wp_block ?_
    | refine Wp_skip ?_
    | refine Wp_exit ?_
    | refine Wp_ret ?_
  refine Wp_loop (fun k : Nat => ⟨[(1, .val (.one (.st (polyP xs)))), (5, .val (.one (.st (rowC (xs.length + 12) (xs.length + 12) (lentRow xs) (lentRow_nop xs))))), (6, .val (aI (k : Int)))], [], 0⟩) (fun k => k ≤ xs.length + 12) (fun k => xs.length + 12 - k) 0 (by omega) (le_of ⟨rfl, rfl, rfl, trivial⟩ trivial rfl) ?_
  intro k hk
  repeat first
    | refine Wp_seq ?_
    | refine Wp_region tm_mixed ?_
    | refine AW_move rfl rfl ?_
    | refine AW_assign rfl rfl ?_
    | refine AW_load rfl ty_num rfl rfl rfl rfl ?_
    | refine AW_store ty_num rfl rfl rfl rfl rfl rfl rfl ?_
    | refine AW_extract rfl rfl rfl ?_
    | refine AW_alloc rfl tz_num ?_
    | refine AW_box rfl rfl (row := true) rfl (fun h => by cases h) rfl ?_
    | refine AW_not rfl rfl ?_
    | refine AW_build rfl tb_num rfl ?_
    | refine AW_call rfl rfl (by first | exact k0) ?_
    | refine AW_ints rfl tu_nums ti_num ti_size ti_zero rfl rfl rfl (by first | exact .cons _ _ _ _ _ rfl (.cons _ _ _ _ _ rfl (.nil _)) | exact .cons _ _ _ _ _ rfl (.cons _ _ _ _ _ rfl (.cons _ _ _ _ _ rfl (.cons _ _ _ _ _ rfl (.nil _)))) | exact .cons _ _ _ _ _ rfl (.cons _ _ _ _ _ rfl (.cons _ _ _ _ _ rfl (.nil _))) | exact .cons _ _ _ _ _ rfl (.cons _ _ _ _ _ rfl (.cons _ _ _ _ _ rfl (.cons _ _ _ _ _ rfl (.cons _ _ _ _ _ rfl (.nil _)))))) ?_
    | refine AW_fieldAddr rfl tf_neg rfl rfl ?_ | refine AW_fieldAddr rfl tf_mag rfl rfl ?_ | refine AW_load rfl ty_bool rfl rfl rfl rfl ?_ | refine AW_load rfl ty_mag rfl rfl rfl rfl ?_ | refine AW_beq rfl Tryz.underlying4 rfl rfl ?_ | refine AW_bne rfl Tryz.underlying4 rfl rfl ?_ | refine AW_len rfl rfl Tryz.underlying22 ?_ | refine AW_ge rfl rfl rfl ?_ | refine AW_gt rfl rfl rfl ?_ | refine AW_quiet rfl (q_lenC rfl rfl tu_nums) ?_ | refine AW_lt rfl rfl rfl ?_
    | refine AW_pickT rfl rfl rfl ?_
    | refine AW_pickF rfl rfl rfl ?_
    | refine AW_skip rfl rfl rfl rfl ?_
    | refine AW_pickTg rfl rfl rfl rfl rfl rfl ?_
    | refine AW_pickFg rfl rfl rfl rfl rfl rfl ?_
    | refine AW_moveg rfl rfl rfl rfl rfl ?_
    | refine AW_notg rfl rfl rfl rfl rfl ?_
    | refine AW_eqg rfl rfl rfl rfl rfl rfl ?_
    | refine AW_eq rfl rfl rfl ?_
    | refine AW_loadg rfl rfl rfl rfl ty_num rfl rfl rfl rfl ?_
    | refine AW_callg rfl rfl rfl rfl rfl (by first | exact k0) ?_
    | refine AW_nil (fun (h : false = true) => by cases h) ?_
    | refine AW_nil (fun (_ : true = true) => by kernel_rfl) ?_
    | refine Wp_block ?_
    | refine Wp_skip ?_
    | refine Wp_exit ?_
    | refine Wp_ret ?_
  refine Wp_cond rfl (fun hc => ?_) (fun hc => ?_)
  · have hlt : k < xs.length + 12 := by have := of_decide_eq_true hc; omega
    have hE' : IntKind.i64.wrap ((k : Int) + 1) = ((k + 1 : Nat) : Int) := by rw [IntKind.wrap_i64]; omega
    by_cases hx0 : k < xs.length
    · obtain ⟨x, hx⟩ : ∃ x, xs[k]? = some x := ⟨_, List.getElem?_eq_getElem hx0⟩
      have kK := ct_KeptInt x (hs x (List.mem_of_getElem? hx))
      have e1 : decide ((k : Int) < (xs.length : Int)) = true := decide_eq_true (by omega)
      have e2 : decide ((xs.length : Int) ≤ (k : Int)) = false := decide_eq_false (by omega)
      have hrd := rd_lent hx
      repeat first
        | refine Wp_seq ?_
        | refine Wp_region tm_mixed ?_
        | refine AW_move rfl rfl ?_
        | refine AW_assign rfl rfl ?_
        | refine AW_load rfl ty_num rfl rfl rfl rfl ?_
        | refine AW_store ty_num rfl rfl rfl rfl rfl rfl rfl ?_
        | refine AW_extract rfl rfl rfl ?_
        | refine AW_alloc rfl tz_num ?_
        | refine AW_box rfl rfl (row := true) rfl (fun h => by cases h) rfl ?_
        | refine AW_not rfl rfl ?_
        | refine AW_build rfl tb_num rfl ?_
        | refine AW_call rfl rfl (by first | exact kK) ?_
        | refine AW_ints rfl tu_nums ti_num ti_size ti_zero rfl rfl rfl (by first | exact .cons _ _ _ _ _ rfl (.cons _ _ _ _ _ rfl (.nil _)) | exact .cons _ _ _ _ _ rfl (.cons _ _ _ _ _ rfl (.cons _ _ _ _ _ rfl (.cons _ _ _ _ _ rfl (.nil _)))) | exact .cons _ _ _ _ _ rfl (.cons _ _ _ _ _ rfl (.cons _ _ _ _ _ rfl (.nil _))) | exact .cons _ _ _ _ _ rfl (.cons _ _ _ _ _ rfl (.cons _ _ _ _ _ rfl (.cons _ _ _ _ _ rfl (.cons _ _ _ _ _ rfl (.nil _)))))) ?_
        | refine AW_fieldAddr rfl tf_neg rfl rfl ?_ | refine AW_fieldAddr rfl tf_mag rfl rfl ?_ | refine AW_load rfl ty_bool rfl rfl rfl rfl ?_ | refine AW_load rfl ty_mag rfl rfl rfl rfl ?_ | refine AW_beq rfl Tryz.underlying4 rfl rfl ?_ | refine AW_bne rfl Tryz.underlying4 rfl rfl ?_ | refine AW_len rfl rfl Tryz.underlying22 ?_ | refine AW_ge rfl rfl rfl ?_ | refine AW_gt rfl rfl rfl ?_ | refine AW_lenPoly rfl rfl tu_nums ?_ | refine AW_quiet rfl (q_ltE rfl rfl e1) ?_ | refine AW_quietg rfl rfl rfl rfl (q_rowCAt rfl rfl hlt tu_nums ts_num hrd) ?_ | refine AW_quietg rfl rfl rfl rfl (q_atLoad rfl ty_num rfl) ?_ | refine AW_quietg rfl rfl rfl rfl (q_polyAt rfl rfl hx tu_nums ts_num) ?_ | refine AW_quietg rfl rfl rfl rfl (q_loadP rfl ty_num) ?_ | refine AW_quietg rfl rfl rfl rfl (q_lenPoly rfl rfl tu_nums) ?_ | refine AW_quietg rfl rfl rfl rfl (q_geE rfl rfl e2) ?_
        | refine AW_pickT rfl rfl rfl ?_
        | refine AW_pickF rfl rfl rfl ?_
        | refine AW_skip rfl rfl rfl rfl ?_
        | refine AW_pickTg rfl rfl rfl rfl rfl rfl ?_
        | refine AW_pickFg rfl rfl rfl rfl rfl rfl ?_
        | refine AW_moveg rfl rfl rfl rfl rfl ?_
        | refine AW_notg rfl rfl rfl rfl rfl ?_
        | refine AW_eqg rfl rfl rfl rfl rfl rfl ?_
        | refine AW_eq rfl rfl rfl ?_
        | refine AW_loadg rfl rfl rfl rfl ty_num rfl rfl rfl rfl ?_
        | refine AW_callg rfl rfl rfl rfl rfl (by first | exact kK) ?_
        | refine AW_nil (fun (h : false = true) => by cases h) ?_
        | refine AW_nil (fun (_ : true = true) => by kernel_rfl) ?_
        | refine Wp_block ?_
        | refine Wp_skip ?_
        | refine Wp_exit ?_
        | refine Wp_ret ?_
      refine Wp_condF rfl ?_
      repeat first
        | refine Wp_seq ?_
        | refine Wp_region tm_mixed ?_
        | refine AW_move rfl rfl ?_
        | refine AW_assign rfl rfl ?_
        | refine AW_load rfl ty_num rfl rfl rfl rfl ?_
        | refine AW_store ty_num rfl rfl rfl rfl rfl rfl rfl ?_
        | refine AW_extract rfl rfl rfl ?_
        | refine AW_alloc rfl tz_num ?_
        | refine AW_box rfl rfl (row := true) rfl (fun h => by cases h) rfl ?_
        | refine AW_not rfl rfl ?_
        | refine AW_build rfl tb_num rfl ?_
        | refine AW_call rfl rfl (by first | exact k0) ?_
        | refine AW_ints rfl tu_nums ti_num ti_size ti_zero rfl rfl rfl (by first | exact .cons _ _ _ _ _ rfl (.cons _ _ _ _ _ rfl (.nil _)) | exact .cons _ _ _ _ _ rfl (.cons _ _ _ _ _ rfl (.cons _ _ _ _ _ rfl (.cons _ _ _ _ _ rfl (.nil _)))) | exact .cons _ _ _ _ _ rfl (.cons _ _ _ _ _ rfl (.cons _ _ _ _ _ rfl (.nil _))) | exact .cons _ _ _ _ _ rfl (.cons _ _ _ _ _ rfl (.cons _ _ _ _ _ rfl (.cons _ _ _ _ _ rfl (.cons _ _ _ _ _ rfl (.nil _)))))) ?_
        | refine AW_fieldAddr rfl tf_neg rfl rfl ?_ | refine AW_fieldAddr rfl tf_mag rfl rfl ?_ | refine AW_load rfl ty_bool rfl rfl rfl rfl ?_ | refine AW_load rfl ty_mag rfl rfl rfl rfl ?_ | refine AW_beq rfl Tryz.underlying4 rfl rfl ?_ | refine AW_bne rfl Tryz.underlying4 rfl rfl ?_ | refine AW_len rfl rfl Tryz.underlying22 ?_ | refine AW_ge rfl rfl rfl ?_ | refine AW_gt rfl rfl rfl ?_ | refine AW_quiet rfl (q_addE rfl rfl hE') ?_
        | refine AW_pickT rfl rfl rfl ?_
        | refine AW_pickF rfl rfl rfl ?_
        | refine AW_skip rfl rfl rfl rfl ?_
        | refine AW_pickTg rfl rfl rfl rfl rfl rfl ?_
        | refine AW_pickFg rfl rfl rfl rfl rfl rfl ?_
        | refine AW_moveg rfl rfl rfl rfl rfl ?_
        | refine AW_notg rfl rfl rfl rfl rfl ?_
        | refine AW_eqg rfl rfl rfl rfl rfl rfl ?_
        | refine AW_eq rfl rfl rfl ?_
        | refine AW_loadg rfl rfl rfl rfl ty_num rfl rfl rfl rfl ?_
        | refine AW_callg rfl rfl rfl rfl rfl (by first | exact k0) ?_
        | refine AW_nil (fun (h : false = true) => by cases h) ?_
        | refine AW_nil (fun (_ : true = true) => by kernel_rfl) ?_
        | refine Wp_block ?_
        | refine Wp_skip ?_
        | refine Wp_exit ?_
        | refine Wp_ret ?_
      exact ⟨k + 1, hlt, le_of ⟨rfl, rfl, rfl, trivial⟩ trivial rfl, by omega⟩
    · obtain ⟨i, rfl⟩ : ∃ i, k = xs.length + i := ⟨k - xs.length, by omega⟩
      have kM := ct_mark1 i (by omega)
      have kS := ct_SameT (false, [markN i]) (by simp)
      have e1 : decide (((xs.length + i : Nat) : Int) < (xs.length : Int)) = false := decide_eq_false (by omega)
      have e2 : decide ((xs.length : Int) ≤ ((xs.length + i : Nat) : Int)) = true := decide_eq_true (by omega)
      have e3 : IntKind.i64.wrap (((xs.length + i : Nat) : Int) - (xs.length : Int)) = (i : Int) := by rw [IntKind.wrap_i64]; omega
      have hrd := rd_mark (xs := xs) (i := i) (by omega)
      repeat first
        | refine Wp_seq ?_
        | refine Wp_region tm_mixed ?_
        | refine AW_move rfl rfl ?_
        | refine AW_assign rfl rfl ?_
        | refine AW_load rfl ty_num rfl rfl rfl rfl ?_
        | refine AW_store ty_num rfl rfl rfl rfl rfl rfl rfl ?_
        | refine AW_extract rfl rfl rfl ?_
        | refine AW_alloc rfl tz_num ?_
        | refine AW_box rfl rfl (row := true) rfl (fun h => by cases h) rfl ?_
        | refine AW_not rfl rfl ?_
        | refine AW_build rfl tb_num rfl ?_
        | refine AW_call rfl rfl (by first | exact kM | exact kS) ?_
        | refine AW_ints rfl tu_nums ti_num ti_size ti_zero rfl rfl rfl (by first | exact .cons _ _ _ _ _ rfl (.cons _ _ _ _ _ rfl (.nil _)) | exact .cons _ _ _ _ _ rfl (.cons _ _ _ _ _ rfl (.cons _ _ _ _ _ rfl (.cons _ _ _ _ _ rfl (.nil _)))) | exact .cons _ _ _ _ _ rfl (.cons _ _ _ _ _ rfl (.cons _ _ _ _ _ rfl (.nil _))) | exact .cons _ _ _ _ _ rfl (.cons _ _ _ _ _ rfl (.cons _ _ _ _ _ rfl (.cons _ _ _ _ _ rfl (.cons _ _ _ _ _ rfl (.nil _)))))) ?_
        | refine AW_fieldAddr rfl tf_neg rfl rfl ?_ | refine AW_fieldAddr rfl tf_mag rfl rfl ?_ | refine AW_load rfl ty_bool rfl rfl rfl rfl ?_ | refine AW_load rfl ty_mag rfl rfl rfl rfl ?_ | refine AW_beq rfl Tryz.underlying4 rfl rfl ?_ | refine AW_bne rfl Tryz.underlying4 rfl rfl ?_ | refine AW_len rfl rfl Tryz.underlying22 ?_ | refine AW_ge rfl rfl rfl ?_ | refine AW_gt rfl rfl rfl ?_ | refine AW_lenPoly rfl rfl tu_nums ?_ | refine AW_quiet rfl (q_ltE rfl rfl e1) ?_ | refine AW_quietg rfl rfl rfl rfl (q_rowCAt rfl rfl hlt tu_nums ts_num hrd) ?_ | refine AW_quietg rfl rfl rfl rfl (q_atLoad rfl ty_num rfl) ?_ | refine AW_quietg rfl rfl rfl rfl (q_lenPoly rfl rfl tu_nums) ?_ | refine AW_quietg rfl rfl rfl rfl (q_geE rfl rfl e2) ?_ | refine AW_quietg rfl rfl rfl rfl (q_subE rfl rfl e3) ?_
        | refine AW_pickT rfl rfl rfl ?_
        | refine AW_pickF rfl rfl rfl ?_
        | refine AW_skip rfl rfl rfl rfl ?_
        | refine AW_pickTg rfl rfl rfl rfl rfl rfl ?_
        | refine AW_pickFg rfl rfl rfl rfl rfl rfl ?_
        | refine AW_moveg rfl rfl rfl rfl rfl ?_
        | refine AW_notg rfl rfl rfl rfl rfl ?_
        | refine AW_eqg rfl rfl rfl rfl rfl rfl ?_
        | refine AW_eq rfl rfl rfl ?_
        | refine AW_loadg rfl rfl rfl rfl ty_num rfl rfl rfl rfl ?_
        | refine AW_callg rfl rfl rfl rfl rfl (by first | exact kM | exact kS) ?_
        | refine AW_nil (fun (h : false = true) => by cases h) ?_
        | refine AW_nil (fun (_ : true = true) => by kernel_rfl) ?_
        | refine Wp_block ?_
        | refine Wp_skip ?_
        | refine Wp_exit ?_
        | refine Wp_ret ?_
      refine Wp_condF rfl ?_
      repeat first
        | refine Wp_seq ?_
        | refine Wp_region tm_mixed ?_
        | refine AW_move rfl rfl ?_
        | refine AW_assign rfl rfl ?_
        | refine AW_load rfl ty_num rfl rfl rfl rfl ?_
        | refine AW_store ty_num rfl rfl rfl rfl rfl rfl rfl ?_
        | refine AW_extract rfl rfl rfl ?_
        | refine AW_alloc rfl tz_num ?_
        | refine AW_box rfl rfl (row := true) rfl (fun h => by cases h) rfl ?_
        | refine AW_not rfl rfl ?_
        | refine AW_build rfl tb_num rfl ?_
        | refine AW_call rfl rfl (by first | exact k0) ?_
        | refine AW_ints rfl tu_nums ti_num ti_size ti_zero rfl rfl rfl (by first | exact .cons _ _ _ _ _ rfl (.cons _ _ _ _ _ rfl (.nil _)) | exact .cons _ _ _ _ _ rfl (.cons _ _ _ _ _ rfl (.cons _ _ _ _ _ rfl (.cons _ _ _ _ _ rfl (.nil _)))) | exact .cons _ _ _ _ _ rfl (.cons _ _ _ _ _ rfl (.cons _ _ _ _ _ rfl (.nil _))) | exact .cons _ _ _ _ _ rfl (.cons _ _ _ _ _ rfl (.cons _ _ _ _ _ rfl (.cons _ _ _ _ _ rfl (.cons _ _ _ _ _ rfl (.nil _)))))) ?_
        | refine AW_fieldAddr rfl tf_neg rfl rfl ?_ | refine AW_fieldAddr rfl tf_mag rfl rfl ?_ | refine AW_load rfl ty_bool rfl rfl rfl rfl ?_ | refine AW_load rfl ty_mag rfl rfl rfl rfl ?_ | refine AW_beq rfl Tryz.underlying4 rfl rfl ?_ | refine AW_bne rfl Tryz.underlying4 rfl rfl ?_ | refine AW_len rfl rfl Tryz.underlying22 ?_ | refine AW_ge rfl rfl rfl ?_ | refine AW_gt rfl rfl rfl ?_ | refine AW_quiet rfl (q_addE rfl rfl hE') ?_
        | refine AW_pickT rfl rfl rfl ?_
        | refine AW_pickF rfl rfl rfl ?_
        | refine AW_skip rfl rfl rfl rfl ?_
        | refine AW_pickTg rfl rfl rfl rfl rfl rfl ?_
        | refine AW_pickFg rfl rfl rfl rfl rfl rfl ?_
        | refine AW_moveg rfl rfl rfl rfl rfl ?_
        | refine AW_notg rfl rfl rfl rfl rfl ?_
        | refine AW_eqg rfl rfl rfl rfl rfl rfl ?_
        | refine AW_eq rfl rfl rfl ?_
        | refine AW_loadg rfl rfl rfl rfl ty_num rfl rfl rfl rfl ?_
        | refine AW_callg rfl rfl rfl rfl rfl (by first | exact k0) ?_
        | refine AW_nil (fun (h : false = true) => by cases h) ?_
        | refine AW_nil (fun (_ : true = true) => by kernel_rfl) ?_
        | refine Wp_block ?_
        | refine Wp_skip ?_
        | refine Wp_exit ?_
        | refine Wp_ret ?_
      exact ⟨_, hlt, le_of ⟨rfl, rfl, rfl, trivial⟩ trivial rfl, by omega⟩
  · repeat first
      | refine Wp_seq ?_
      | refine Wp_region tm_mixed ?_
      | refine AW_move rfl rfl ?_
      | refine AW_assign rfl rfl ?_
      | refine AW_load rfl ty_num rfl rfl rfl rfl ?_
      | refine AW_store ty_num rfl rfl rfl rfl rfl rfl rfl ?_
      | refine AW_extract rfl rfl rfl ?_
      | refine AW_alloc rfl tz_num ?_
      | refine AW_box rfl rfl (row := true) rfl (fun h => by cases h) rfl ?_
      | refine AW_not rfl rfl ?_
      | refine AW_build rfl tb_num rfl ?_
      | refine AW_call rfl rfl (by first | exact k0) ?_
      | refine AW_ints rfl tu_nums ti_num ti_size ti_zero rfl rfl rfl (by first | exact .cons _ _ _ _ _ rfl (.cons _ _ _ _ _ rfl (.nil _)) | exact .cons _ _ _ _ _ rfl (.cons _ _ _ _ _ rfl (.cons _ _ _ _ _ rfl (.cons _ _ _ _ _ rfl (.nil _)))) | exact .cons _ _ _ _ _ rfl (.cons _ _ _ _ _ rfl (.cons _ _ _ _ _ rfl (.nil _))) | exact .cons _ _ _ _ _ rfl (.cons _ _ _ _ _ rfl (.cons _ _ _ _ _ rfl (.cons _ _ _ _ _ rfl (.cons _ _ _ _ _ rfl (.nil _)))))) ?_
      | refine AW_fieldAddr rfl tf_neg rfl rfl ?_ | refine AW_fieldAddr rfl tf_mag rfl rfl ?_ | refine AW_load rfl ty_bool rfl rfl rfl rfl ?_ | refine AW_load rfl ty_mag rfl rfl rfl rfl ?_ | refine AW_beq rfl Tryz.underlying4 rfl rfl ?_ | refine AW_bne rfl Tryz.underlying4 rfl rfl ?_ | refine AW_len rfl rfl Tryz.underlying22 ?_ | refine AW_ge rfl rfl rfl ?_ | refine AW_gt rfl rfl rfl ?_
      | refine AW_pickT rfl rfl rfl ?_
      | refine AW_pickF rfl rfl rfl ?_
      | refine AW_skip rfl rfl rfl rfl ?_
      | refine AW_pickTg rfl rfl rfl rfl rfl rfl ?_
      | refine AW_pickFg rfl rfl rfl rfl rfl rfl ?_
      | refine AW_moveg rfl rfl rfl rfl rfl ?_
      | refine AW_notg rfl rfl rfl rfl rfl ?_
      | refine AW_eqg rfl rfl rfl rfl rfl rfl ?_
      | refine AW_eq rfl rfl rfl ?_
      | refine AW_loadg rfl rfl rfl rfl ty_num rfl rfl rfl rfl ?_
      | refine AW_callg rfl rfl rfl rfl rfl (by first | exact k0) ?_
      | refine AW_nil (fun (h : false = true) => by cases h) ?_
      | refine AW_nil (fun (_ : true = true) => by kernel_rfl) ?_
      | refine Wp_block ?_
      | refine Wp_skip ?_
      | refine Wp_exit ?_
      | refine Wp_ret ?_
    exact ⟨.inr rfl, _, .tmp _ _ _ _ rfl .nil, rfl⟩
end Go.Proofs.YtonbhpadoplpkaaGreat
/- The package rosetteref20: Join. The law of layer 20: GcdJoins. -/
namespace Go.Proofs.YtonbhpadoplpkaaGreat
open Go.RowKit Go.Deep
/-- What the reference's Join reckons, behind the last IntFloor. -/
def refX (r m s n : Int) : Int := (r + m * ((s - r).fdiv (gcdZ m n) * invZ (m.fdiv (gcdZ m n)) (n.fdiv (gcdZ m n)))).fmod (lcmZ m n)
theorem fdiv_mul {g m : Int} (gp : 0 < g) (h : g ∣ m) : g * m.fdiv g = m := by
  rw [Int.fdiv_eq_ediv_of_nonneg _ (by omega)]
  exact Int.mul_ediv_cancel' h
theorem pos_of_mul {g u m : Int} (gp : 0 < g) (m0 : 0 < m) (h : g * u = m) : 0 < u := by
  rcases Int.lt_trichotomy u 0 with h1 | h1 | h1
  · have := Int.mul_neg_of_pos_of_neg gp h1; omega
  · subst h1; omega
  · exact h1
theorem lcmZ_pos {m n : Int} (m0 : 0 < m) (n0 : 0 < n) : 0 < lcmZ m n := by
  rw [(lcmZ_eq m0 n0).2]
  have gp := gcdZ_pos (a := m) (b := n) (by omega)
  have h := Int.tdiv_mul_cancel (gcdZ_dvd_right m n)
  rw [Int.mul_comm] at h
  exact Int.mul_pos m0 (pos_of_mul gp n0 h)
theorem refX_eq {r m s n : Int} (m0 : 0 < m) (n0 : 0 < n) (hj : joins r m s n) : refX r m s n = joinX r m s n := by
  obtain ⟨j0, j1, j2, j3⟩ := joinX_spec m0 n0 hj
  have hd := (joins_iff m0 n0).1 hj
  have lp := lcmZ_pos m0 n0
  have hl1 : m ∣ lcmZ m n := by rw [(lcmZ_eq m0 n0).2]; exact Int.dvd_mul_right _ _
  have hl2 : n ∣ lcmZ m n := by rw [(lcmZ_eq m0 n0).1]; exact Int.dvd_mul_left _ _
  have gp := gcdZ_pos (a := m) (b := n) (by omega)
  have gm := gcdZ_dvd_left m n
  have gn := gcdZ_dvd_right m n
  have hself : gcdZ (m.fdiv (gcdZ m n)) (n.fdiv (gcdZ m n)) = 1 := by
    have h := gcdZ_self (a := m) (b := n) (by omega)
    rwa [bM_eq (a := m) (b := n) (by omega), show ((n.natAbs : Nat) : Int) = n by omega] at h
  unfold refX
  obtain ⟨g, hg⟩ : ∃ g, gcdZ m n = g := ⟨_, rfl⟩
  rw [hg] at hd gp gm gn hself ⊢
  have eu := fdiv_mul gp gm
  have ev := fdiv_mul gp gn
  have ed := fdiv_mul gp (show g ∣ s - r by have := Int.dvd_neg.2 hd; rwa [Int.neg_sub] at this)
  obtain ⟨u, hu⟩ : ∃ u, m.fdiv g = u := ⟨_, rfl⟩
  obtain ⟨v, hv⟩ : ∃ v, n.fdiv g = v := ⟨_, rfl⟩
  obtain ⟨d, hdd⟩ : ∃ d, (s - r).fdiv g = d := ⟨_, rfl⟩
  rw [hu] at eu hself ⊢
  rw [hv] at ev hself ⊢
  rw [hdd] at ed ⊢
  have vp := pos_of_mul gp n0 ev
  obtain ⟨_, _, i2⟩ := invZ_spec u v vp
  rw [hself] at i2
  obtain ⟨i, hi⟩ : ∃ i, invZ u v = i := ⟨_, rfl⟩
  rw [hi] at i2 ⊢
  obtain ⟨t, ht⟩ := i2
  rw [Int.fmod_eq_emod_of_nonneg _ (by omega)]
  have e0 := Int.emod_nonneg (r + m * (d * i)) (show lcmZ m n ≠ 0 by omega)
  have e1 := Int.emod_lt_of_pos (r + m * (d * i)) lp
  have e2 : lcmZ m n ∣ (r + m * (d * i)) - (r + m * (d * i)) % lcmZ m n := Int.dvd_self_sub_emod
  refine crt_unique m0 n0 e0 e1 j0 j1 ?_ ?_
  · have h1 : m ∣ (r + m * (d * i)) - joinX r m s n := by
      have := Int.dvd_sub (Int.dvd_mul_right m (d * i)) j2
      rwa [show m * (d * i) - (joinX r m s n - r) = (r + m * (d * i)) - joinX r m s n by omega] at this
    have h2 := Int.dvd_sub h1 (Int.dvd_trans hl1 e2)
    rwa [show (r + m * (d * i)) - joinX r m s n - ((r + m * (d * i)) - (r + m * (d * i)) % lcmZ m n) = (r + m * (d * i)) % lcmZ m n - joinX r m s n by omega] at h2
  · have h0 : n ∣ m * (d * i) - (s - r) := by
      refine ⟨d * t, ?_⟩
      have e3 : u * i = 1 + v * t := by omega
      have e4 : m * (d * i) = g * d * (u * i) := by rw [← eu]; simp only [Int.mul_assoc, Int.mul_left_comm, Int.mul_comm]
      rw [e4, e3, ← ed, ← ev, Int.mul_add, Int.mul_one]
      have e5 : g * d * (v * t) = g * v * (d * t) := by simp only [Int.mul_assoc, Int.mul_left_comm, Int.mul_comm]
      omega
    have h1 : n ∣ (r + m * (d * i)) - joinX r m s n := by
      have := Int.dvd_sub h0 j3
      rwa [show m * (d * i) - (s - r) - (joinX r m s n - s) = (r + m * (d * i)) - joinX r m s n by omega] at this
    have h2 := Int.dvd_sub h1 (Int.dvd_trans hl2 e2)
    rwa [show (r + m * (d * i)) - joinX r m s n - ((r + m * (d * i)) - (r + m * (d * i)) % lcmZ m n) = (r + m * (d * i)) % lcmZ m n - joinX r m s n by omega] at h2
theorem lc_fdiv {x y : Int} {k : Nat} (hy : 0 ≤ y) (hx : lc x.natAbs ≤ k) : lc (x.fdiv y).natAbs ≤ k := by
  rw [Int.fdiv_eq_ediv_of_nonneg _ hy]
  exact Nat.le_trans (lc_mono (Int.natAbs_ediv_le_natAbs x y)) hx
set_option maxHeartbeats 2000000 in
set_option maxRecDepth 100000 in
theorem ct_r20Join (r m s n : Int) (hr : lc r.natAbs ≤ 90) (hm : lc m.natAbs ≤ 90) (hs : lc s.natAbs ≤ 90) (hn : lc n.natAbs ≤ 90) (m0 : 0 < m) (n0 : 0 < n) :
    Ct Tryz.prog 35 [aZ r, aZ m, aZ s, aZ n] (.tup (if joins r m s n then [zZ (joinX r m s n), zZ (lcmZ m n), aI 0] else [aInt (false, []), aInt (false, []), aI 300])) := by
  refine ct_of_wp [.cell 8 24, .cell 9 24, .tmp 10] [(0, aZ r), (1, aZ m), (2, aZ s), (3, aZ n)] 102 Tryz.func35 rfl rfl rfl rfl rfl rfl rfl (by split <;> rfl) ?_
  intro G0 w0
  have k1 := ct_IntRight (rawOf r)
  have k2 := ct_IntRight (rawOf m)
  have k3 := ct_IntRight (rawOf s)
  have k4 := ct_IntRight (rawOf n)
  rw [right_raw (by omega)] at k1 k2 k3 k4
  have s1 := ct_IntSign m (by omega)
  have s2 := ct_IntSign n (by omega)
  rw [Int.sign_eq_one_of_pos m0] at s1
  rw [Int.sign_eq_one_of_pos n0] at s2
  have gp := gcdZ_pos (a := m) (b := n) (by omega)
  have lg : lc (gcdZ m n).natAbs ≤ 90 := by unfold gcdZ; rw [Int.natAbs_natCast]; exact gcd_small hm hn
  have k5 := ct_r20Gcd m n (by omega) (by omega)
  have ld : lc (s - r).natAbs ≤ 91 := lc_sub hs hr
  have k6 := ct_IntLess s r (by omega) (by omega)
  have k7 := ct_IntFloor (s - r) (gcdZ m n) (by omega) (by omega) (by omega)
  have hle : decide ((1 : Int) ≤ 0) = false := rfl
  repeat first
    | refine Wp_seq ?_
    | refine Wp_region tm_mixed ?_
    | refine AW_move rfl rfl ?_
    | refine AW_assign rfl rfl ?_
    | refine AW_load rfl ty_num rfl rfl rfl rfl ?_
    | refine AW_store ty_num rfl rfl rfl rfl rfl rfl rfl ?_
    | refine AW_extract rfl rfl rfl ?_
    | refine AW_alloc rfl tz_num ?_
    | refine AW_box rfl rfl (row := true) rfl (fun h => by cases h) rfl ?_
    | refine AW_not rfl rfl ?_
    | refine AW_build rfl tb_num rfl ?_
    | refine AW_call rfl rfl (by first | exact k1 | exact k2 | exact k3 | exact k4) ?_
    | refine AW_ints rfl tu_nums ti_num ti_size ti_zero rfl rfl rfl (by first | exact .cons _ _ _ _ _ rfl (.cons _ _ _ _ _ rfl (.nil _)) | exact .cons _ _ _ _ _ rfl (.cons _ _ _ _ _ rfl (.cons _ _ _ _ _ rfl (.cons _ _ _ _ _ rfl (.nil _)))) | exact .cons _ _ _ _ _ rfl (.cons _ _ _ _ _ rfl (.cons _ _ _ _ _ rfl (.nil _))) | exact .cons _ _ _ _ _ rfl (.cons _ _ _ _ _ rfl (.cons _ _ _ _ _ rfl (.cons _ _ _ _ _ rfl (.cons _ _ _ _ _ rfl (.nil _)))))) ?_
    | refine AW_fieldAddr rfl tf_neg rfl rfl ?_ | refine AW_fieldAddr rfl tf_mag rfl rfl ?_ | refine AW_load rfl ty_bool rfl rfl rfl rfl ?_ | refine AW_load rfl ty_mag rfl rfl rfl rfl ?_ | refine AW_beq rfl Tryz.underlying4 rfl rfl ?_ | refine AW_bne rfl Tryz.underlying4 rfl rfl ?_ | refine AW_len rfl rfl Tryz.underlying22 ?_ | refine AW_ge rfl rfl rfl ?_ | refine AW_gt rfl rfl rfl ?_
    | refine AW_pickT rfl rfl rfl ?_
    | refine AW_pickF rfl rfl rfl ?_
    | refine AW_skip rfl rfl rfl rfl ?_
    | refine AW_pickTg rfl rfl rfl rfl rfl rfl ?_
    | refine AW_pickFg rfl rfl rfl rfl rfl rfl ?_
    | refine AW_moveg rfl rfl rfl rfl rfl ?_
    | refine AW_notg rfl rfl rfl rfl rfl ?_
    | refine AW_eqg rfl rfl rfl rfl rfl rfl ?_
    | refine AW_eq rfl rfl rfl ?_
    | refine AW_loadg rfl rfl rfl rfl ty_num rfl rfl rfl rfl ?_
    | refine AW_callg rfl rfl rfl rfl rfl (by first | exact k1 | exact k2 | exact k3 | exact k4) ?_
    | refine AW_nil (fun (h : false = true) => by cases h) ?_
    | refine AW_nil (fun (_ : true = true) => by kernel_rfl) ?_
    | refine Wp_block ?_
    | refine Wp_skip ?_
    | refine Wp_exit ?_
    | refine Wp_ret ?_
  refine Wp_condF rfl ?_
  repeat first
    | refine Wp_seq ?_
    | refine Wp_region tm_mixed ?_
    | refine AW_move rfl rfl ?_
    | refine AW_assign rfl rfl ?_
    | refine AW_load rfl ty_num rfl rfl rfl rfl ?_
    | refine AW_store ty_num rfl rfl rfl rfl rfl rfl rfl ?_
    | refine AW_extract rfl rfl rfl ?_
    | refine AW_alloc rfl tz_num ?_
    | refine AW_box rfl rfl (row := true) rfl (fun h => by cases h) rfl ?_
    | refine AW_not rfl rfl ?_
    | refine AW_build rfl tb_num rfl ?_
    | refine AW_call rfl rfl (by first | exact s1 | exact s2) ?_
    | refine AW_ints rfl tu_nums ti_num ti_size ti_zero rfl rfl rfl (by first | exact .cons _ _ _ _ _ rfl (.cons _ _ _ _ _ rfl (.nil _)) | exact .cons _ _ _ _ _ rfl (.cons _ _ _ _ _ rfl (.cons _ _ _ _ _ rfl (.cons _ _ _ _ _ rfl (.nil _)))) | exact .cons _ _ _ _ _ rfl (.cons _ _ _ _ _ rfl (.cons _ _ _ _ _ rfl (.nil _))) | exact .cons _ _ _ _ _ rfl (.cons _ _ _ _ _ rfl (.cons _ _ _ _ _ rfl (.cons _ _ _ _ _ rfl (.cons _ _ _ _ _ rfl (.nil _)))))) ?_
    | refine AW_fieldAddr rfl tf_neg rfl rfl ?_ | refine AW_fieldAddr rfl tf_mag rfl rfl ?_ | refine AW_load rfl ty_bool rfl rfl rfl rfl ?_ | refine AW_load rfl ty_mag rfl rfl rfl rfl ?_ | refine AW_beq rfl Tryz.underlying4 rfl rfl ?_ | refine AW_bne rfl Tryz.underlying4 rfl rfl ?_ | refine AW_len rfl rfl Tryz.underlying22 ?_ | refine AW_ge rfl rfl rfl ?_ | refine AW_gt rfl rfl rfl ?_ | refine AW_quiet rfl (q_leE rfl rfl hle) ?_ | refine AW_quietg rfl rfl rfl rfl (q_leE rfl rfl hle) ?_
    | refine AW_pickT rfl rfl rfl ?_
    | refine AW_pickF rfl rfl rfl ?_
    | refine AW_skip rfl rfl rfl rfl ?_
    | refine AW_pickTg rfl rfl rfl rfl rfl rfl ?_
    | refine AW_pickFg rfl rfl rfl rfl rfl rfl ?_
    | refine AW_moveg rfl rfl rfl rfl rfl ?_
    | refine AW_notg rfl rfl rfl rfl rfl ?_
    | refine AW_eqg rfl rfl rfl rfl rfl rfl ?_
    | refine AW_eq rfl rfl rfl ?_
    | refine AW_loadg rfl rfl rfl rfl ty_num rfl rfl rfl rfl ?_
    | refine AW_callg rfl rfl rfl rfl rfl (by first | exact s1 | exact s2) ?_
    | refine AW_nil (fun (h : false = true) => by cases h) ?_
    | refine AW_nil (fun (_ : true = true) => by kernel_rfl) ?_
    | refine Wp_block ?_
    | refine Wp_skip ?_
    | refine Wp_exit ?_
    | refine Wp_ret ?_
  refine Wp_condF rfl ?_
  by_cases hj : joins r m s n
  · have hd : gcdZ m n ∣ s - r := by have := Int.dvd_neg.2 ((joins_iff m0 n0).1 hj); rwa [Int.neg_sub] at this
    have k8 := ct_IntZeroT ((s - r).fmod (gcdZ m n)) (by rw [Int.fmod_eq_emod_of_nonneg _ (by omega)]; exact Int.emod_eq_zero_of_dvd hd)
    have k9 := ct_r20lcm m n hm hn (by omega)
    have ll : lc (lcmZ m n).natAbs ≤ 180 := by
      unfold lcmZ
      exact lc_times (j := 90) (k := 90) (by rw [Int.natAbs_natCast]; exact hm) (by rw [Int.natAbs_natCast]; exact Nat.le_trans (lc_mono (Nat.div_le_self _ _)) hn)
    have lp := lcmZ_pos m0 n0
    have kA := ct_KLong (lcmZ m n) (by omega)
    rw [decide_eq_false (by omega)] at kA
    have kB := ct_IntFloor m (gcdZ m n) (by omega) (by omega) (by omega)
    have kC := ct_IntFloor n (gcdZ m n) (by omega) (by omega) (by omega)
    have lu : lc (m.fdiv (gcdZ m n)).natAbs ≤ 90 := lc_fdiv (by omega) hm
    have lv : lc (n.fdiv (gcdZ m n)).natAbs ≤ 90 := lc_fdiv (by omega) hn
    have lD : lc ((s - r).fdiv (gcdZ m n)).natAbs ≤ 91 := lc_fdiv (by omega) ld
    have vp : 0 < n.fdiv (gcdZ m n) := pos_of_mul gp n0 (fdiv_mul gp (gcdZ_dvd_right m n))
    have kD := ct_Inverse (m.fdiv (gcdZ m n)) (n.fdiv (gcdZ m n)) lu lv vp
    have hx := refX_eq m0 n0 hj
    unfold refX at hx
    obtain ⟨i0, i1, _⟩ := invZ_spec (m.fdiv (gcdZ m n)) (n.fdiv (gcdZ m n)) vp
    have li : lc (invZ (m.fdiv (gcdZ m n)) (n.fdiv (gcdZ m n))).natAbs ≤ 90 := Nat.le_trans (lc_mono (by omega)) lv
    have lt1 : lc ((s - r).fdiv (gcdZ m n) * invZ (m.fdiv (gcdZ m n)) (n.fdiv (gcdZ m n))).natAbs ≤ 181 := lc_times lD li
    have lt2 : lc (m * ((s - r).fdiv (gcdZ m n) * invZ (m.fdiv (gcdZ m n)) (n.fdiv (gcdZ m n)))).natAbs ≤ 271 := lc_times hm lt1
    have lt3 : lc (r + m * ((s - r).fdiv (gcdZ m n) * invZ (m.fdiv (gcdZ m n)) (n.fdiv (gcdZ m n)))).natAbs ≤ 272 := lc_plus (k := 271) (by omega) lt2
    obtain ⟨I, hI⟩ : ∃ I, invZ (m.fdiv (gcdZ m n)) (n.fdiv (gcdZ m n)) = I := ⟨_, rfl⟩
    rw [hI] at kD hx li lt1 lt2 lt3
    have kE := ct_IntTimes ((s - r).fdiv (gcdZ m n)) I (by omega) (by omega)
    have kF := ct_IntTimes m ((s - r).fdiv (gcdZ m n) * I) (by omega) (by omega)
    have kG := ct_IntPlus r (m * ((s - r).fdiv (gcdZ m n) * I)) (by omega) (by omega)
    have kH := ct_IntFloor (r + m * ((s - r).fdiv (gcdZ m n) * I)) (lcmZ m n) (by omega) (by omega) (by omega)
    rw [hx] at kH
    rw [if_pos hj]
    repeat first
      | refine Wp_seq ?_
      | refine Wp_region tm_mixed ?_
      | refine AW_move rfl rfl ?_
      | refine AW_assign rfl rfl ?_
      | refine AW_load rfl ty_num rfl rfl rfl rfl ?_
      | refine AW_store ty_num rfl rfl rfl rfl rfl rfl rfl ?_
      | refine AW_extract rfl rfl rfl ?_
      | refine AW_alloc rfl tz_num ?_
      | refine AW_box rfl rfl (row := true) rfl (fun h => by cases h) rfl ?_
      | refine AW_not rfl rfl ?_
      | refine AW_build rfl tb_num rfl ?_
      | refine AW_call rfl rfl (by first | exact k5 | exact k6 | exact k7 | exact k8) ?_
      | refine AW_ints rfl tu_nums ti_num ti_size ti_zero rfl rfl rfl (by first | exact .cons _ _ _ _ _ rfl (.cons _ _ _ _ _ rfl (.nil _)) | exact .cons _ _ _ _ _ rfl (.cons _ _ _ _ _ rfl (.cons _ _ _ _ _ rfl (.cons _ _ _ _ _ rfl (.nil _)))) | exact .cons _ _ _ _ _ rfl (.cons _ _ _ _ _ rfl (.cons _ _ _ _ _ rfl (.nil _))) | exact .cons _ _ _ _ _ rfl (.cons _ _ _ _ _ rfl (.cons _ _ _ _ _ rfl (.cons _ _ _ _ _ rfl (.cons _ _ _ _ _ rfl (.nil _)))))) ?_
      | refine AW_fieldAddr rfl tf_neg rfl rfl ?_ | refine AW_fieldAddr rfl tf_mag rfl rfl ?_ | refine AW_load rfl ty_bool rfl rfl rfl rfl ?_ | refine AW_load rfl ty_mag rfl rfl rfl rfl ?_ | refine AW_beq rfl Tryz.underlying4 rfl rfl ?_ | refine AW_bne rfl Tryz.underlying4 rfl rfl ?_ | refine AW_len rfl rfl Tryz.underlying22 ?_ | refine AW_ge rfl rfl rfl ?_ | refine AW_gt rfl rfl rfl ?_
      | refine AW_pickT rfl rfl rfl ?_
      | refine AW_pickF rfl rfl rfl ?_
      | refine AW_skip rfl rfl rfl rfl ?_
      | refine AW_pickTg rfl rfl rfl rfl rfl rfl ?_
      | refine AW_pickFg rfl rfl rfl rfl rfl rfl ?_
      | refine AW_moveg rfl rfl rfl rfl rfl ?_
      | refine AW_notg rfl rfl rfl rfl rfl ?_
      | refine AW_eqg rfl rfl rfl rfl rfl rfl ?_
      | refine AW_eq rfl rfl rfl ?_
      | refine AW_loadg rfl rfl rfl rfl ty_num rfl rfl rfl rfl ?_
      | refine AW_callg rfl rfl rfl rfl rfl (by first | exact k5 | exact k6 | exact k7 | exact k8) ?_
      | refine AW_nil (fun (h : false = true) => by cases h) ?_
      | refine AW_nil (fun (_ : true = true) => by kernel_rfl) ?_
      | refine Wp_block ?_
      | refine Wp_skip ?_
      | refine Wp_exit ?_
      | refine Wp_ret ?_
    refine Wp_condF rfl ?_
    repeat first
      | refine Wp_seq ?_
      | refine Wp_region tm_mixed ?_
      | refine AW_move rfl rfl ?_
      | refine AW_assign rfl rfl ?_
      | refine AW_load rfl ty_num rfl rfl rfl rfl ?_
      | refine AW_store ty_num rfl rfl rfl rfl rfl rfl rfl ?_
      | refine AW_extract rfl rfl rfl ?_
      | refine AW_alloc rfl tz_num ?_
      | refine AW_box rfl rfl (row := true) rfl (fun h => by cases h) rfl ?_
      | refine AW_not rfl rfl ?_
      | refine AW_build rfl tb_num rfl ?_
      | refine AW_call rfl rfl (by first | exact k9 | exact kA) ?_
      | refine AW_ints rfl tu_nums ti_num ti_size ti_zero rfl rfl rfl (by first | exact .cons _ _ _ _ _ rfl (.cons _ _ _ _ _ rfl (.nil _)) | exact .cons _ _ _ _ _ rfl (.cons _ _ _ _ _ rfl (.cons _ _ _ _ _ rfl (.cons _ _ _ _ _ rfl (.nil _)))) | exact .cons _ _ _ _ _ rfl (.cons _ _ _ _ _ rfl (.cons _ _ _ _ _ rfl (.nil _))) | exact .cons _ _ _ _ _ rfl (.cons _ _ _ _ _ rfl (.cons _ _ _ _ _ rfl (.cons _ _ _ _ _ rfl (.cons _ _ _ _ _ rfl (.nil _)))))) ?_
      | refine AW_fieldAddr rfl tf_neg rfl rfl ?_ | refine AW_fieldAddr rfl tf_mag rfl rfl ?_ | refine AW_load rfl ty_bool rfl rfl rfl rfl ?_ | refine AW_load rfl ty_mag rfl rfl rfl rfl ?_ | refine AW_beq rfl Tryz.underlying4 rfl rfl ?_ | refine AW_bne rfl Tryz.underlying4 rfl rfl ?_ | refine AW_len rfl rfl Tryz.underlying22 ?_ | refine AW_ge rfl rfl rfl ?_ | refine AW_gt rfl rfl rfl ?_
      | refine AW_pickT rfl rfl rfl ?_
      | refine AW_pickF rfl rfl rfl ?_
      | refine AW_skip rfl rfl rfl rfl ?_
      | refine AW_pickTg rfl rfl rfl rfl rfl rfl ?_
      | refine AW_pickFg rfl rfl rfl rfl rfl rfl ?_
      | refine AW_moveg rfl rfl rfl rfl rfl ?_
      | refine AW_notg rfl rfl rfl rfl rfl ?_
      | refine AW_eqg rfl rfl rfl rfl rfl rfl ?_
      | refine AW_eq rfl rfl rfl ?_
      | refine AW_loadg rfl rfl rfl rfl ty_num rfl rfl rfl rfl ?_
      | refine AW_callg rfl rfl rfl rfl rfl (by first | exact k9 | exact kA) ?_
      | refine AW_nil (fun (h : false = true) => by cases h) ?_
      | refine AW_nil (fun (_ : true = true) => by kernel_rfl) ?_
      | refine Wp_block ?_
      | refine Wp_skip ?_
      | refine Wp_exit ?_
      | refine Wp_ret ?_
    refine Wp_condF rfl ?_
    repeat first
      | refine Wp_seq ?_
      | refine Wp_region tm_mixed ?_
      | refine AW_move rfl rfl ?_
      | refine AW_assign rfl rfl ?_
      | refine AW_load rfl ty_num rfl rfl rfl rfl ?_
      | refine AW_store ty_num rfl rfl rfl rfl rfl rfl rfl ?_
      | refine AW_extract rfl rfl rfl ?_
      | refine AW_alloc rfl tz_num ?_
      | refine AW_box rfl rfl (row := true) rfl (fun h => by cases h) rfl ?_
      | refine AW_not rfl rfl ?_
      | refine AW_build rfl tb_num rfl ?_
      | refine AW_call rfl rfl (by first | exact kB | exact kC | exact kD | exact kE | exact kF | exact kG | exact kH) ?_
      | refine AW_ints rfl tu_nums ti_num ti_size ti_zero rfl rfl rfl (by first | exact .cons _ _ _ _ _ rfl (.cons _ _ _ _ _ rfl (.nil _)) | exact .cons _ _ _ _ _ rfl (.cons _ _ _ _ _ rfl (.cons _ _ _ _ _ rfl (.cons _ _ _ _ _ rfl (.nil _)))) | exact .cons _ _ _ _ _ rfl (.cons _ _ _ _ _ rfl (.cons _ _ _ _ _ rfl (.nil _))) | exact .cons _ _ _ _ _ rfl (.cons _ _ _ _ _ rfl (.cons _ _ _ _ _ rfl (.cons _ _ _ _ _ rfl (.cons _ _ _ _ _ rfl (.nil _)))))) ?_
      | refine AW_fieldAddr rfl tf_neg rfl rfl ?_ | refine AW_fieldAddr rfl tf_mag rfl rfl ?_ | refine AW_load rfl ty_bool rfl rfl rfl rfl ?_ | refine AW_load rfl ty_mag rfl rfl rfl rfl ?_ | refine AW_beq rfl Tryz.underlying4 rfl rfl ?_ | refine AW_bne rfl Tryz.underlying4 rfl rfl ?_ | refine AW_len rfl rfl Tryz.underlying22 ?_ | refine AW_ge rfl rfl rfl ?_ | refine AW_gt rfl rfl rfl ?_
      | refine AW_pickT rfl rfl rfl ?_
      | refine AW_pickF rfl rfl rfl ?_
      | refine AW_skip rfl rfl rfl rfl ?_
      | refine AW_pickTg rfl rfl rfl rfl rfl rfl ?_
      | refine AW_pickFg rfl rfl rfl rfl rfl rfl ?_
      | refine AW_moveg rfl rfl rfl rfl rfl ?_
      | refine AW_notg rfl rfl rfl rfl rfl ?_
      | refine AW_eqg rfl rfl rfl rfl rfl rfl ?_
      | refine AW_eq rfl rfl rfl ?_
      | refine AW_loadg rfl rfl rfl rfl ty_num rfl rfl rfl rfl ?_
      | refine AW_callg rfl rfl rfl rfl rfl (by first | exact kB | exact kC | exact kD | exact kE | exact kF | exact kG | exact kH) ?_
      | refine AW_nil (fun (h : false = true) => by cases h) ?_
      | refine AW_nil (fun (_ : true = true) => by kernel_rfl) ?_
      | refine Wp_block ?_
      | refine Wp_skip ?_
      | refine Wp_exit ?_
      | refine Wp_ret ?_
    exact ⟨.inr rfl, _, .cell _ _ _ _ _ _ _ _ _ _ _ ty_num rfl rfl rfl (.cell _ _ _ _ _ _ _ _ _ _ _ ty_num rfl rfl rfl (.tmp _ _ _ _ rfl .nil)), rfl⟩
  · have hd : ¬ gcdZ m n ∣ s - r := fun h => hj ((joins_iff m0 n0).2 (by have := Int.dvd_neg.2 h; rwa [Int.neg_sub] at this))
    have lf : lc ((s - r).fmod (gcdZ m n)).natAbs ≤ 90 := by rw [Int.fmod_eq_emod_of_nonneg _ (by omega)]; exact Nat.le_trans (lc_mono (mod_size gp)) lg
    have k8 := ct_IntZeroF ((s - r).fmod (gcdZ m n)) (by omega) (by rw [Int.fmod_eq_emod_of_nonneg _ (by omega)]; exact fun h => hd (Int.dvd_of_emod_eq_zero h))
    rw [if_neg hj]
    repeat first
      | refine Wp_seq ?_
      | refine Wp_region tm_mixed ?_
      | refine AW_move rfl rfl ?_
      | refine AW_assign rfl rfl ?_
      | refine AW_load rfl ty_num rfl rfl rfl rfl ?_
      | refine AW_store ty_num rfl rfl rfl rfl rfl rfl rfl ?_
      | refine AW_extract rfl rfl rfl ?_
      | refine AW_alloc rfl tz_num ?_
      | refine AW_box rfl rfl (row := true) rfl (fun h => by cases h) rfl ?_
      | refine AW_not rfl rfl ?_
      | refine AW_build rfl tb_num rfl ?_
      | refine AW_call rfl rfl (by first | exact k5 | exact k6 | exact k7 | exact k8) ?_
      | refine AW_ints rfl tu_nums ti_num ti_size ti_zero rfl rfl rfl (by first | exact .cons _ _ _ _ _ rfl (.cons _ _ _ _ _ rfl (.nil _)) | exact .cons _ _ _ _ _ rfl (.cons _ _ _ _ _ rfl (.cons _ _ _ _ _ rfl (.cons _ _ _ _ _ rfl (.nil _)))) | exact .cons _ _ _ _ _ rfl (.cons _ _ _ _ _ rfl (.cons _ _ _ _ _ rfl (.nil _))) | exact .cons _ _ _ _ _ rfl (.cons _ _ _ _ _ rfl (.cons _ _ _ _ _ rfl (.cons _ _ _ _ _ rfl (.cons _ _ _ _ _ rfl (.nil _)))))) ?_
      | refine AW_fieldAddr rfl tf_neg rfl rfl ?_ | refine AW_fieldAddr rfl tf_mag rfl rfl ?_ | refine AW_load rfl ty_bool rfl rfl rfl rfl ?_ | refine AW_load rfl ty_mag rfl rfl rfl rfl ?_ | refine AW_beq rfl Tryz.underlying4 rfl rfl ?_ | refine AW_bne rfl Tryz.underlying4 rfl rfl ?_ | refine AW_len rfl rfl Tryz.underlying22 ?_ | refine AW_ge rfl rfl rfl ?_ | refine AW_gt rfl rfl rfl ?_
      | refine AW_pickT rfl rfl rfl ?_
      | refine AW_pickF rfl rfl rfl ?_
      | refine AW_skip rfl rfl rfl rfl ?_
      | refine AW_pickTg rfl rfl rfl rfl rfl rfl ?_
      | refine AW_pickFg rfl rfl rfl rfl rfl rfl ?_
      | refine AW_moveg rfl rfl rfl rfl rfl ?_
      | refine AW_notg rfl rfl rfl rfl rfl ?_
      | refine AW_eqg rfl rfl rfl rfl rfl rfl ?_
      | refine AW_eq rfl rfl rfl ?_
      | refine AW_loadg rfl rfl rfl rfl ty_num rfl rfl rfl rfl ?_
      | refine AW_callg rfl rfl rfl rfl rfl (by first | exact k5 | exact k6 | exact k7 | exact k8) ?_
      | refine AW_nil (fun (h : false = true) => by cases h) ?_
      | refine AW_nil (fun (_ : true = true) => by kernel_rfl) ?_
      | refine Wp_block ?_
      | refine Wp_skip ?_
      | refine Wp_exit ?_
      | refine Wp_ret ?_
    refine Wp_condT rfl ?_
    repeat first
      | refine Wp_seq ?_
      | refine Wp_region tm_mixed ?_
      | refine AW_move rfl rfl ?_
      | refine AW_assign rfl rfl ?_
      | refine AW_load rfl ty_num rfl rfl rfl rfl ?_
      | refine AW_store ty_num rfl rfl rfl rfl rfl rfl rfl ?_
      | refine AW_extract rfl rfl rfl ?_
      | refine AW_alloc rfl tz_num ?_
      | refine AW_box rfl rfl (row := true) rfl (fun h => by cases h) rfl ?_
      | refine AW_not rfl rfl ?_
      | refine AW_build rfl tb_num rfl ?_
      | refine AW_call rfl rfl (by first | exact k8) ?_
      | refine AW_ints rfl tu_nums ti_num ti_size ti_zero rfl rfl rfl (by first | exact .cons _ _ _ _ _ rfl (.cons _ _ _ _ _ rfl (.nil _)) | exact .cons _ _ _ _ _ rfl (.cons _ _ _ _ _ rfl (.cons _ _ _ _ _ rfl (.cons _ _ _ _ _ rfl (.nil _)))) | exact .cons _ _ _ _ _ rfl (.cons _ _ _ _ _ rfl (.cons _ _ _ _ _ rfl (.nil _))) | exact .cons _ _ _ _ _ rfl (.cons _ _ _ _ _ rfl (.cons _ _ _ _ _ rfl (.cons _ _ _ _ _ rfl (.cons _ _ _ _ _ rfl (.nil _)))))) ?_
      | refine AW_fieldAddr rfl tf_neg rfl rfl ?_ | refine AW_fieldAddr rfl tf_mag rfl rfl ?_ | refine AW_load rfl ty_bool rfl rfl rfl rfl ?_ | refine AW_load rfl ty_mag rfl rfl rfl rfl ?_ | refine AW_beq rfl Tryz.underlying4 rfl rfl ?_ | refine AW_bne rfl Tryz.underlying4 rfl rfl ?_ | refine AW_len rfl rfl Tryz.underlying22 ?_ | refine AW_ge rfl rfl rfl ?_ | refine AW_gt rfl rfl rfl ?_
      | refine AW_pickT rfl rfl rfl ?_
      | refine AW_pickF rfl rfl rfl ?_
      | refine AW_skip rfl rfl rfl rfl ?_
      | refine AW_pickTg rfl rfl rfl rfl rfl rfl ?_
      | refine AW_pickFg rfl rfl rfl rfl rfl rfl ?_
      | refine AW_moveg rfl rfl rfl rfl rfl ?_
      | refine AW_notg rfl rfl rfl rfl rfl ?_
      | refine AW_eqg rfl rfl rfl rfl rfl rfl ?_
      | refine AW_eq rfl rfl rfl ?_
      | refine AW_loadg rfl rfl rfl rfl ty_num rfl rfl rfl rfl ?_
      | refine AW_callg rfl rfl rfl rfl rfl (by first | exact k8) ?_
      | refine AW_nil (fun (h : false = true) => by cases h) ?_
      | refine AW_nil (fun (_ : true = true) => by kernel_rfl) ?_
      | refine Wp_block ?_
      | refine Wp_skip ?_
      | refine Wp_exit ?_
      | refine Wp_ret ?_
    exact ⟨.inr rfl, _, .cell _ _ _ _ _ _ _ _ _ _ _ ty_num rfl rfl rfl (.cell _ _ _ _ _ _ _ _ _ _ _ ty_num rfl rfl rfl (.tmp _ _ _ _ rfl .nil)), rfl⟩
set_option maxHeartbeats 2000000 in
set_option maxRecDepth 100000 in
theorem ct_r20Join_low (r m s n : Int) (hr : lc r.natAbs ≤ 90) (hm : lc m.natAbs ≤ 90) (hs : lc s.natAbs ≤ 90) (hn : lc n.natAbs ≤ 90) (h : m ≤ 0 ∨ n ≤ 0) :
    Ct Tryz.prog 35 [aZ r, aZ m, aZ s, aZ n] (.tup [aInt (false, []), aInt (false, []), aI 2]) := by
  refine ct_of_wp [.cell 8 24, .cell 9 24, .tmp 10] [(0, aZ r), (1, aZ m), (2, aZ s), (3, aZ n)] 102 Tryz.func35 rfl rfl rfl rfl rfl rfl rfl rfl ?_
  intro G0 w0
  have k1 := ct_IntRight (rawOf r)
  have k2 := ct_IntRight (rawOf m)
  have k3 := ct_IntRight (rawOf s)
  have k4 := ct_IntRight (rawOf n)
  rw [right_raw (by omega)] at k1 k2 k3 k4
  have s1 := ct_IntSign m (by omega)
  have s2 := ct_IntSign n (by omega)
  have sg : ∀ z : Int, z ≤ 0 → Int.sign z ≤ 0 := by
    intro z hz
    rcases Int.lt_trichotomy z 0 with h | h | h
    · rw [Int.sign_eq_neg_one_of_neg h]; omega
    · subst h; exact Int.le_refl _
    · omega
  repeat first
    | refine Wp_seq ?_
    | refine Wp_region tm_mixed ?_
    | refine AW_move rfl rfl ?_
    | refine AW_assign rfl rfl ?_
    | refine AW_load rfl ty_num rfl rfl rfl rfl ?_
    | refine AW_store ty_num rfl rfl rfl rfl rfl rfl rfl ?_
    | refine AW_extract rfl rfl rfl ?_
    | refine AW_alloc rfl tz_num ?_
    | refine AW_box rfl rfl (row := true) rfl (fun h => by cases h) rfl ?_
    | refine AW_not rfl rfl ?_
    | refine AW_build rfl tb_num rfl ?_
    | refine AW_call rfl rfl (by first | exact k1 | exact k2 | exact k3 | exact k4) ?_
    | refine AW_ints rfl tu_nums ti_num ti_size ti_zero rfl rfl rfl (by first | exact .cons _ _ _ _ _ rfl (.cons _ _ _ _ _ rfl (.nil _)) | exact .cons _ _ _ _ _ rfl (.cons _ _ _ _ _ rfl (.cons _ _ _ _ _ rfl (.cons _ _ _ _ _ rfl (.nil _)))) | exact .cons _ _ _ _ _ rfl (.cons _ _ _ _ _ rfl (.cons _ _ _ _ _ rfl (.nil _))) | exact .cons _ _ _ _ _ rfl (.cons _ _ _ _ _ rfl (.cons _ _ _ _ _ rfl (.cons _ _ _ _ _ rfl (.cons _ _ _ _ _ rfl (.nil _)))))) ?_
    | refine AW_fieldAddr rfl tf_neg rfl rfl ?_ | refine AW_fieldAddr rfl tf_mag rfl rfl ?_ | refine AW_load rfl ty_bool rfl rfl rfl rfl ?_ | refine AW_load rfl ty_mag rfl rfl rfl rfl ?_ | refine AW_beq rfl Tryz.underlying4 rfl rfl ?_ | refine AW_bne rfl Tryz.underlying4 rfl rfl ?_ | refine AW_len rfl rfl Tryz.underlying22 ?_ | refine AW_ge rfl rfl rfl ?_ | refine AW_gt rfl rfl rfl ?_
    | refine AW_pickT rfl rfl rfl ?_
    | refine AW_pickF rfl rfl rfl ?_
    | refine AW_skip rfl rfl rfl rfl ?_
    | refine AW_pickTg rfl rfl rfl rfl rfl rfl ?_
    | refine AW_pickFg rfl rfl rfl rfl rfl rfl ?_
    | refine AW_moveg rfl rfl rfl rfl rfl ?_
    | refine AW_notg rfl rfl rfl rfl rfl ?_
    | refine AW_eqg rfl rfl rfl rfl rfl rfl ?_
    | refine AW_eq rfl rfl rfl ?_
    | refine AW_loadg rfl rfl rfl rfl ty_num rfl rfl rfl rfl ?_
    | refine AW_callg rfl rfl rfl rfl rfl (by first | exact k1 | exact k2 | exact k3 | exact k4) ?_
    | refine AW_nil (fun (h : false = true) => by cases h) ?_
    | refine AW_nil (fun (_ : true = true) => by kernel_rfl) ?_
    | refine Wp_block ?_
    | refine Wp_skip ?_
    | refine Wp_exit ?_
    | refine Wp_ret ?_
  refine Wp_condF rfl ?_
  by_cases m0 : m ≤ 0
  · have h1 : decide (Int.sign m ≤ 0) = true := decide_eq_true (sg m m0)
    repeat first
      | refine Wp_seq ?_
      | refine Wp_region tm_mixed ?_
      | refine AW_move rfl rfl ?_
      | refine AW_assign rfl rfl ?_
      | refine AW_load rfl ty_num rfl rfl rfl rfl ?_
      | refine AW_store ty_num rfl rfl rfl rfl rfl rfl rfl ?_
      | refine AW_extract rfl rfl rfl ?_
      | refine AW_alloc rfl tz_num ?_
      | refine AW_box rfl rfl (row := true) rfl (fun h => by cases h) rfl ?_
      | refine AW_not rfl rfl ?_
      | refine AW_build rfl tb_num rfl ?_
      | refine AW_call rfl rfl (by first | exact s1 | exact s2) ?_
      | refine AW_ints rfl tu_nums ti_num ti_size ti_zero rfl rfl rfl (by first | exact .cons _ _ _ _ _ rfl (.cons _ _ _ _ _ rfl (.nil _)) | exact .cons _ _ _ _ _ rfl (.cons _ _ _ _ _ rfl (.cons _ _ _ _ _ rfl (.cons _ _ _ _ _ rfl (.nil _)))) | exact .cons _ _ _ _ _ rfl (.cons _ _ _ _ _ rfl (.cons _ _ _ _ _ rfl (.nil _))) | exact .cons _ _ _ _ _ rfl (.cons _ _ _ _ _ rfl (.cons _ _ _ _ _ rfl (.cons _ _ _ _ _ rfl (.cons _ _ _ _ _ rfl (.nil _)))))) ?_
      | refine AW_fieldAddr rfl tf_neg rfl rfl ?_ | refine AW_fieldAddr rfl tf_mag rfl rfl ?_ | refine AW_load rfl ty_bool rfl rfl rfl rfl ?_ | refine AW_load rfl ty_mag rfl rfl rfl rfl ?_ | refine AW_beq rfl Tryz.underlying4 rfl rfl ?_ | refine AW_bne rfl Tryz.underlying4 rfl rfl ?_ | refine AW_len rfl rfl Tryz.underlying22 ?_ | refine AW_ge rfl rfl rfl ?_ | refine AW_gt rfl rfl rfl ?_ | refine AW_quiet rfl (q_leE rfl rfl h1) ?_
      | refine AW_pickT rfl rfl rfl ?_
      | refine AW_pickF rfl rfl rfl ?_
      | refine AW_skip rfl rfl rfl rfl ?_
      | refine AW_pickTg rfl rfl rfl rfl rfl rfl ?_
      | refine AW_pickFg rfl rfl rfl rfl rfl rfl ?_
      | refine AW_moveg rfl rfl rfl rfl rfl ?_
      | refine AW_notg rfl rfl rfl rfl rfl ?_
      | refine AW_eqg rfl rfl rfl rfl rfl rfl ?_
      | refine AW_eq rfl rfl rfl ?_
      | refine AW_loadg rfl rfl rfl rfl ty_num rfl rfl rfl rfl ?_
      | refine AW_callg rfl rfl rfl rfl rfl (by first | exact s1 | exact s2) ?_
      | refine AW_nil (fun (h : false = true) => by cases h) ?_
      | refine AW_nil (fun (_ : true = true) => by kernel_rfl) ?_
      | refine Wp_block ?_
      | refine Wp_skip ?_
      | refine Wp_exit ?_
      | refine Wp_ret ?_
    refine Wp_condT rfl ?_
    repeat first
      | refine Wp_seq ?_
      | refine Wp_region tm_mixed ?_
      | refine AW_move rfl rfl ?_
      | refine AW_assign rfl rfl ?_
      | refine AW_load rfl ty_num rfl rfl rfl rfl ?_
      | refine AW_store ty_num rfl rfl rfl rfl rfl rfl rfl ?_
      | refine AW_extract rfl rfl rfl ?_
      | refine AW_alloc rfl tz_num ?_
      | refine AW_box rfl rfl (row := true) rfl (fun h => by cases h) rfl ?_
      | refine AW_not rfl rfl ?_
      | refine AW_build rfl tb_num rfl ?_
      | refine AW_call rfl rfl (by first | exact k1) ?_
      | refine AW_ints rfl tu_nums ti_num ti_size ti_zero rfl rfl rfl (by first | exact .cons _ _ _ _ _ rfl (.cons _ _ _ _ _ rfl (.nil _)) | exact .cons _ _ _ _ _ rfl (.cons _ _ _ _ _ rfl (.cons _ _ _ _ _ rfl (.cons _ _ _ _ _ rfl (.nil _)))) | exact .cons _ _ _ _ _ rfl (.cons _ _ _ _ _ rfl (.cons _ _ _ _ _ rfl (.nil _))) | exact .cons _ _ _ _ _ rfl (.cons _ _ _ _ _ rfl (.cons _ _ _ _ _ rfl (.cons _ _ _ _ _ rfl (.cons _ _ _ _ _ rfl (.nil _)))))) ?_
      | refine AW_fieldAddr rfl tf_neg rfl rfl ?_ | refine AW_fieldAddr rfl tf_mag rfl rfl ?_ | refine AW_load rfl ty_bool rfl rfl rfl rfl ?_ | refine AW_load rfl ty_mag rfl rfl rfl rfl ?_ | refine AW_beq rfl Tryz.underlying4 rfl rfl ?_ | refine AW_bne rfl Tryz.underlying4 rfl rfl ?_ | refine AW_len rfl rfl Tryz.underlying22 ?_ | refine AW_ge rfl rfl rfl ?_ | refine AW_gt rfl rfl rfl ?_
      | refine AW_pickT rfl rfl rfl ?_
      | refine AW_pickF rfl rfl rfl ?_
      | refine AW_skip rfl rfl rfl rfl ?_
      | refine AW_pickTg rfl rfl rfl rfl rfl rfl ?_
      | refine AW_pickFg rfl rfl rfl rfl rfl rfl ?_
      | refine AW_moveg rfl rfl rfl rfl rfl ?_
      | refine AW_notg rfl rfl rfl rfl rfl ?_
      | refine AW_eqg rfl rfl rfl rfl rfl rfl ?_
      | refine AW_eq rfl rfl rfl ?_
      | refine AW_loadg rfl rfl rfl rfl ty_num rfl rfl rfl rfl ?_
      | refine AW_callg rfl rfl rfl rfl rfl (by first | exact k1) ?_
      | refine AW_nil (fun (h : false = true) => by cases h) ?_
      | refine AW_nil (fun (_ : true = true) => by kernel_rfl) ?_
      | refine Wp_block ?_
      | refine Wp_skip ?_
      | refine Wp_exit ?_
      | refine Wp_ret ?_
    exact ⟨.inr rfl, _, .cell _ _ _ _ _ _ _ _ _ _ _ ty_num rfl rfl rfl (.cell _ _ _ _ _ _ _ _ _ _ _ ty_num rfl rfl rfl (.tmp _ _ _ _ rfl .nil)), rfl⟩
  · have h1 : decide (Int.sign m ≤ 0) = false := by rw [Int.sign_eq_one_of_pos (by omega)]; rfl
    have h2 : decide (Int.sign n ≤ 0) = true := decide_eq_true (sg n (by omega))
    repeat first
      | refine Wp_seq ?_
      | refine Wp_region tm_mixed ?_
      | refine AW_move rfl rfl ?_
      | refine AW_assign rfl rfl ?_
      | refine AW_load rfl ty_num rfl rfl rfl rfl ?_
      | refine AW_store ty_num rfl rfl rfl rfl rfl rfl rfl ?_
      | refine AW_extract rfl rfl rfl ?_
      | refine AW_alloc rfl tz_num ?_
      | refine AW_box rfl rfl (row := true) rfl (fun h => by cases h) rfl ?_
      | refine AW_not rfl rfl ?_
      | refine AW_build rfl tb_num rfl ?_
      | refine AW_call rfl rfl (by first | exact s1 | exact s2) ?_
      | refine AW_ints rfl tu_nums ti_num ti_size ti_zero rfl rfl rfl (by first | exact .cons _ _ _ _ _ rfl (.cons _ _ _ _ _ rfl (.nil _)) | exact .cons _ _ _ _ _ rfl (.cons _ _ _ _ _ rfl (.cons _ _ _ _ _ rfl (.cons _ _ _ _ _ rfl (.nil _)))) | exact .cons _ _ _ _ _ rfl (.cons _ _ _ _ _ rfl (.cons _ _ _ _ _ rfl (.nil _))) | exact .cons _ _ _ _ _ rfl (.cons _ _ _ _ _ rfl (.cons _ _ _ _ _ rfl (.cons _ _ _ _ _ rfl (.cons _ _ _ _ _ rfl (.nil _)))))) ?_
      | refine AW_fieldAddr rfl tf_neg rfl rfl ?_ | refine AW_fieldAddr rfl tf_mag rfl rfl ?_ | refine AW_load rfl ty_bool rfl rfl rfl rfl ?_ | refine AW_load rfl ty_mag rfl rfl rfl rfl ?_ | refine AW_beq rfl Tryz.underlying4 rfl rfl ?_ | refine AW_bne rfl Tryz.underlying4 rfl rfl ?_ | refine AW_len rfl rfl Tryz.underlying22 ?_ | refine AW_ge rfl rfl rfl ?_ | refine AW_gt rfl rfl rfl ?_ | refine AW_quiet rfl (q_leE rfl rfl h1) ?_ | refine AW_quietg rfl rfl rfl rfl (q_leE rfl rfl h2) ?_
      | refine AW_pickT rfl rfl rfl ?_
      | refine AW_pickF rfl rfl rfl ?_
      | refine AW_skip rfl rfl rfl rfl ?_
      | refine AW_pickTg rfl rfl rfl rfl rfl rfl ?_
      | refine AW_pickFg rfl rfl rfl rfl rfl rfl ?_
      | refine AW_moveg rfl rfl rfl rfl rfl ?_
      | refine AW_notg rfl rfl rfl rfl rfl ?_
      | refine AW_eqg rfl rfl rfl rfl rfl rfl ?_
      | refine AW_eq rfl rfl rfl ?_
      | refine AW_loadg rfl rfl rfl rfl ty_num rfl rfl rfl rfl ?_
      | refine AW_callg rfl rfl rfl rfl rfl (by first | exact s1 | exact s2) ?_
      | refine AW_nil (fun (h : false = true) => by cases h) ?_
      | refine AW_nil (fun (_ : true = true) => by kernel_rfl) ?_
      | refine Wp_block ?_
      | refine Wp_skip ?_
      | refine Wp_exit ?_
      | refine Wp_ret ?_
    refine Wp_condT rfl ?_
    repeat first
      | refine Wp_seq ?_
      | refine Wp_region tm_mixed ?_
      | refine AW_move rfl rfl ?_
      | refine AW_assign rfl rfl ?_
      | refine AW_load rfl ty_num rfl rfl rfl rfl ?_
      | refine AW_store ty_num rfl rfl rfl rfl rfl rfl rfl ?_
      | refine AW_extract rfl rfl rfl ?_
      | refine AW_alloc rfl tz_num ?_
      | refine AW_box rfl rfl (row := true) rfl (fun h => by cases h) rfl ?_
      | refine AW_not rfl rfl ?_
      | refine AW_build rfl tb_num rfl ?_
      | refine AW_call rfl rfl (by first | exact k1) ?_
      | refine AW_ints rfl tu_nums ti_num ti_size ti_zero rfl rfl rfl (by first | exact .cons _ _ _ _ _ rfl (.cons _ _ _ _ _ rfl (.nil _)) | exact .cons _ _ _ _ _ rfl (.cons _ _ _ _ _ rfl (.cons _ _ _ _ _ rfl (.cons _ _ _ _ _ rfl (.nil _)))) | exact .cons _ _ _ _ _ rfl (.cons _ _ _ _ _ rfl (.cons _ _ _ _ _ rfl (.nil _))) | exact .cons _ _ _ _ _ rfl (.cons _ _ _ _ _ rfl (.cons _ _ _ _ _ rfl (.cons _ _ _ _ _ rfl (.cons _ _ _ _ _ rfl (.nil _)))))) ?_
      | refine AW_fieldAddr rfl tf_neg rfl rfl ?_ | refine AW_fieldAddr rfl tf_mag rfl rfl ?_ | refine AW_load rfl ty_bool rfl rfl rfl rfl ?_ | refine AW_load rfl ty_mag rfl rfl rfl rfl ?_ | refine AW_beq rfl Tryz.underlying4 rfl rfl ?_ | refine AW_bne rfl Tryz.underlying4 rfl rfl ?_ | refine AW_len rfl rfl Tryz.underlying22 ?_ | refine AW_ge rfl rfl rfl ?_ | refine AW_gt rfl rfl rfl ?_
      | refine AW_pickT rfl rfl rfl ?_
      | refine AW_pickF rfl rfl rfl ?_
      | refine AW_skip rfl rfl rfl rfl ?_
      | refine AW_pickTg rfl rfl rfl rfl rfl rfl ?_
      | refine AW_pickFg rfl rfl rfl rfl rfl rfl ?_
      | refine AW_moveg rfl rfl rfl rfl rfl ?_
      | refine AW_notg rfl rfl rfl rfl rfl ?_
      | refine AW_eqg rfl rfl rfl rfl rfl rfl ?_
      | refine AW_eq rfl rfl rfl ?_
      | refine AW_loadg rfl rfl rfl rfl ty_num rfl rfl rfl rfl ?_
      | refine AW_callg rfl rfl rfl rfl rfl (by first | exact k1) ?_
      | refine AW_nil (fun (h : false = true) => by cases h) ?_
      | refine AW_nil (fun (_ : true = true) => by kernel_rfl) ?_
      | refine Wp_block ?_
      | refine Wp_skip ?_
      | refine Wp_exit ?_
      | refine Wp_ret ?_
    exact ⟨.inr rfl, _, .cell _ _ _ _ _ _ _ _ _ _ _ ty_num rfl rfl rfl (.cell _ _ _ _ _ _ _ _ _ _ _ ty_num rfl rfl rfl (.tmp _ _ _ _ rfl .nil)), rfl⟩
set_option maxHeartbeats 2000000 in
set_option maxRecDepth 100000 in
theorem ct_r20Join_bad (r m s n : Raw) (h : (rightInt r && (rightInt m && (rightInt s && rightInt n))) = false) :
    Ct Tryz.prog 35 [aNum r, aNum m, aNum s, aNum n] (.tup [aInt (false, []), aInt (false, []), aI 2]) := by
  refine ct_of_wp [.cell 8 24, .cell 9 24, .tmp 10] [(0, aNum r), (1, aNum m), (2, aNum s), (3, aNum n)] 102 Tryz.func35 rfl rfl rfl rfl rfl rfl rfl rfl ?_
  intro G0 w0
  have k1 := ct_IntRight r
  have k2 := ct_IntRight m
  have k3 := ct_IntRight s
  have k4 := ct_IntRight n
  cases h1 : rightInt r with
  | false =>
    rw [h1] at k1
    repeat first
      | refine Wp_seq ?_
      | refine Wp_region tm_mixed ?_
      | refine AW_move rfl rfl ?_
      | refine AW_assign rfl rfl ?_
      | refine AW_load rfl ty_num rfl rfl rfl rfl ?_
      | refine AW_store ty_num rfl rfl rfl rfl rfl rfl rfl ?_
      | refine AW_extract rfl rfl rfl ?_
      | refine AW_alloc rfl tz_num ?_
      | refine AW_box rfl rfl (row := true) rfl (fun h => by cases h) rfl ?_
      | refine AW_not rfl rfl ?_
      | refine AW_build rfl tb_num rfl ?_
      | refine AW_call rfl rfl (by first | exact k1) ?_
      | refine AW_ints rfl tu_nums ti_num ti_size ti_zero rfl rfl rfl (by first | exact .cons _ _ _ _ _ rfl (.cons _ _ _ _ _ rfl (.nil _)) | exact .cons _ _ _ _ _ rfl (.cons _ _ _ _ _ rfl (.cons _ _ _ _ _ rfl (.cons _ _ _ _ _ rfl (.nil _)))) | exact .cons _ _ _ _ _ rfl (.cons _ _ _ _ _ rfl (.cons _ _ _ _ _ rfl (.nil _))) | exact .cons _ _ _ _ _ rfl (.cons _ _ _ _ _ rfl (.cons _ _ _ _ _ rfl (.cons _ _ _ _ _ rfl (.cons _ _ _ _ _ rfl (.nil _)))))) ?_
      | refine AW_fieldAddr rfl tf_neg rfl rfl ?_ | refine AW_fieldAddr rfl tf_mag rfl rfl ?_ | refine AW_load rfl ty_bool rfl rfl rfl rfl ?_ | refine AW_load rfl ty_mag rfl rfl rfl rfl ?_ | refine AW_beq rfl Tryz.underlying4 rfl rfl ?_ | refine AW_bne rfl Tryz.underlying4 rfl rfl ?_ | refine AW_len rfl rfl Tryz.underlying22 ?_ | refine AW_ge rfl rfl rfl ?_ | refine AW_gt rfl rfl rfl ?_
      | refine AW_pickT rfl rfl rfl ?_
      | refine AW_pickF rfl rfl rfl ?_
      | refine AW_skip rfl rfl rfl rfl ?_
      | refine AW_pickTg rfl rfl rfl rfl rfl rfl ?_
      | refine AW_pickFg rfl rfl rfl rfl rfl rfl ?_
      | refine AW_moveg rfl rfl rfl rfl rfl ?_
      | refine AW_notg rfl rfl rfl rfl rfl ?_
      | refine AW_eqg rfl rfl rfl rfl rfl rfl ?_
      | refine AW_eq rfl rfl rfl ?_
      | refine AW_loadg rfl rfl rfl rfl ty_num rfl rfl rfl rfl ?_
      | refine AW_callg rfl rfl rfl rfl rfl (by first | exact k1) ?_
      | refine AW_nil (fun (h : false = true) => by cases h) ?_
      | refine AW_nil (fun (_ : true = true) => by kernel_rfl) ?_
      | refine Wp_block ?_
      | refine Wp_skip ?_
      | refine Wp_exit ?_
      | refine Wp_ret ?_
    refine Wp_condT rfl ?_
    repeat first
      | refine Wp_seq ?_
      | refine Wp_region tm_mixed ?_
      | refine AW_move rfl rfl ?_
      | refine AW_assign rfl rfl ?_
      | refine AW_load rfl ty_num rfl rfl rfl rfl ?_
      | refine AW_store ty_num rfl rfl rfl rfl rfl rfl rfl ?_
      | refine AW_extract rfl rfl rfl ?_
      | refine AW_alloc rfl tz_num ?_
      | refine AW_box rfl rfl (row := true) rfl (fun h => by cases h) rfl ?_
      | refine AW_not rfl rfl ?_
      | refine AW_build rfl tb_num rfl ?_
      | refine AW_call rfl rfl (by first | exact k1) ?_
      | refine AW_ints rfl tu_nums ti_num ti_size ti_zero rfl rfl rfl (by first | exact .cons _ _ _ _ _ rfl (.cons _ _ _ _ _ rfl (.nil _)) | exact .cons _ _ _ _ _ rfl (.cons _ _ _ _ _ rfl (.cons _ _ _ _ _ rfl (.cons _ _ _ _ _ rfl (.nil _)))) | exact .cons _ _ _ _ _ rfl (.cons _ _ _ _ _ rfl (.cons _ _ _ _ _ rfl (.nil _))) | exact .cons _ _ _ _ _ rfl (.cons _ _ _ _ _ rfl (.cons _ _ _ _ _ rfl (.cons _ _ _ _ _ rfl (.cons _ _ _ _ _ rfl (.nil _)))))) ?_
      | refine AW_fieldAddr rfl tf_neg rfl rfl ?_ | refine AW_fieldAddr rfl tf_mag rfl rfl ?_ | refine AW_load rfl ty_bool rfl rfl rfl rfl ?_ | refine AW_load rfl ty_mag rfl rfl rfl rfl ?_ | refine AW_beq rfl Tryz.underlying4 rfl rfl ?_ | refine AW_bne rfl Tryz.underlying4 rfl rfl ?_ | refine AW_len rfl rfl Tryz.underlying22 ?_ | refine AW_ge rfl rfl rfl ?_ | refine AW_gt rfl rfl rfl ?_
      | refine AW_pickT rfl rfl rfl ?_
      | refine AW_pickF rfl rfl rfl ?_
      | refine AW_skip rfl rfl rfl rfl ?_
      | refine AW_pickTg rfl rfl rfl rfl rfl rfl ?_
      | refine AW_pickFg rfl rfl rfl rfl rfl rfl ?_
      | refine AW_moveg rfl rfl rfl rfl rfl ?_
      | refine AW_notg rfl rfl rfl rfl rfl ?_
      | refine AW_eqg rfl rfl rfl rfl rfl rfl ?_
      | refine AW_eq rfl rfl rfl ?_
      | refine AW_loadg rfl rfl rfl rfl ty_num rfl rfl rfl rfl ?_
      | refine AW_callg rfl rfl rfl rfl rfl (by first | exact k1) ?_
      | refine AW_nil (fun (h : false = true) => by cases h) ?_
      | refine AW_nil (fun (_ : true = true) => by kernel_rfl) ?_
      | refine Wp_block ?_
      | refine Wp_skip ?_
      | refine Wp_exit ?_
      | refine Wp_ret ?_
    exact ⟨.inr rfl, _, .cell _ _ _ _ _ _ _ _ _ _ _ ty_num rfl rfl rfl (.cell _ _ _ _ _ _ _ _ _ _ _ ty_num rfl rfl rfl (.tmp _ _ _ _ rfl .nil)), rfl⟩
  | true =>
    rw [h1] at k1 h
    cases h2 : rightInt m with
    | false =>
      rw [h2] at k2
      repeat first
        | refine Wp_seq ?_
        | refine Wp_region tm_mixed ?_
        | refine AW_move rfl rfl ?_
        | refine AW_assign rfl rfl ?_
        | refine AW_load rfl ty_num rfl rfl rfl rfl ?_
        | refine AW_store ty_num rfl rfl rfl rfl rfl rfl rfl ?_
        | refine AW_extract rfl rfl rfl ?_
        | refine AW_alloc rfl tz_num ?_
        | refine AW_box rfl rfl (row := true) rfl (fun h => by cases h) rfl ?_
        | refine AW_not rfl rfl ?_
        | refine AW_build rfl tb_num rfl ?_
        | refine AW_call rfl rfl (by first | exact k1 | exact k2) ?_
        | refine AW_ints rfl tu_nums ti_num ti_size ti_zero rfl rfl rfl (by first | exact .cons _ _ _ _ _ rfl (.cons _ _ _ _ _ rfl (.nil _)) | exact .cons _ _ _ _ _ rfl (.cons _ _ _ _ _ rfl (.cons _ _ _ _ _ rfl (.cons _ _ _ _ _ rfl (.nil _)))) | exact .cons _ _ _ _ _ rfl (.cons _ _ _ _ _ rfl (.cons _ _ _ _ _ rfl (.nil _))) | exact .cons _ _ _ _ _ rfl (.cons _ _ _ _ _ rfl (.cons _ _ _ _ _ rfl (.cons _ _ _ _ _ rfl (.cons _ _ _ _ _ rfl (.nil _)))))) ?_
        | refine AW_fieldAddr rfl tf_neg rfl rfl ?_ | refine AW_fieldAddr rfl tf_mag rfl rfl ?_ | refine AW_load rfl ty_bool rfl rfl rfl rfl ?_ | refine AW_load rfl ty_mag rfl rfl rfl rfl ?_ | refine AW_beq rfl Tryz.underlying4 rfl rfl ?_ | refine AW_bne rfl Tryz.underlying4 rfl rfl ?_ | refine AW_len rfl rfl Tryz.underlying22 ?_ | refine AW_ge rfl rfl rfl ?_ | refine AW_gt rfl rfl rfl ?_
        | refine AW_pickT rfl rfl rfl ?_
        | refine AW_pickF rfl rfl rfl ?_
        | refine AW_skip rfl rfl rfl rfl ?_
        | refine AW_pickTg rfl rfl rfl rfl rfl rfl ?_
        | refine AW_pickFg rfl rfl rfl rfl rfl rfl ?_
        | refine AW_moveg rfl rfl rfl rfl rfl ?_
        | refine AW_notg rfl rfl rfl rfl rfl ?_
        | refine AW_eqg rfl rfl rfl rfl rfl rfl ?_
        | refine AW_eq rfl rfl rfl ?_
        | refine AW_loadg rfl rfl rfl rfl ty_num rfl rfl rfl rfl ?_
        | refine AW_callg rfl rfl rfl rfl rfl (by first | exact k1 | exact k2) ?_
        | refine AW_nil (fun (h : false = true) => by cases h) ?_
        | refine AW_nil (fun (_ : true = true) => by kernel_rfl) ?_
        | refine Wp_block ?_
        | refine Wp_skip ?_
        | refine Wp_exit ?_
        | refine Wp_ret ?_
      refine Wp_condT rfl ?_
      repeat first
        | refine Wp_seq ?_
        | refine Wp_region tm_mixed ?_
        | refine AW_move rfl rfl ?_
        | refine AW_assign rfl rfl ?_
        | refine AW_load rfl ty_num rfl rfl rfl rfl ?_
        | refine AW_store ty_num rfl rfl rfl rfl rfl rfl rfl ?_
        | refine AW_extract rfl rfl rfl ?_
        | refine AW_alloc rfl tz_num ?_
        | refine AW_box rfl rfl (row := true) rfl (fun h => by cases h) rfl ?_
        | refine AW_not rfl rfl ?_
        | refine AW_build rfl tb_num rfl ?_
        | refine AW_call rfl rfl (by first | exact k1) ?_
        | refine AW_ints rfl tu_nums ti_num ti_size ti_zero rfl rfl rfl (by first | exact .cons _ _ _ _ _ rfl (.cons _ _ _ _ _ rfl (.nil _)) | exact .cons _ _ _ _ _ rfl (.cons _ _ _ _ _ rfl (.cons _ _ _ _ _ rfl (.cons _ _ _ _ _ rfl (.nil _)))) | exact .cons _ _ _ _ _ rfl (.cons _ _ _ _ _ rfl (.cons _ _ _ _ _ rfl (.nil _))) | exact .cons _ _ _ _ _ rfl (.cons _ _ _ _ _ rfl (.cons _ _ _ _ _ rfl (.cons _ _ _ _ _ rfl (.cons _ _ _ _ _ rfl (.nil _)))))) ?_
        | refine AW_fieldAddr rfl tf_neg rfl rfl ?_ | refine AW_fieldAddr rfl tf_mag rfl rfl ?_ | refine AW_load rfl ty_bool rfl rfl rfl rfl ?_ | refine AW_load rfl ty_mag rfl rfl rfl rfl ?_ | refine AW_beq rfl Tryz.underlying4 rfl rfl ?_ | refine AW_bne rfl Tryz.underlying4 rfl rfl ?_ | refine AW_len rfl rfl Tryz.underlying22 ?_ | refine AW_ge rfl rfl rfl ?_ | refine AW_gt rfl rfl rfl ?_
        | refine AW_pickT rfl rfl rfl ?_
        | refine AW_pickF rfl rfl rfl ?_
        | refine AW_skip rfl rfl rfl rfl ?_
        | refine AW_pickTg rfl rfl rfl rfl rfl rfl ?_
        | refine AW_pickFg rfl rfl rfl rfl rfl rfl ?_
        | refine AW_moveg rfl rfl rfl rfl rfl ?_
        | refine AW_notg rfl rfl rfl rfl rfl ?_
        | refine AW_eqg rfl rfl rfl rfl rfl rfl ?_
        | refine AW_eq rfl rfl rfl ?_
        | refine AW_loadg rfl rfl rfl rfl ty_num rfl rfl rfl rfl ?_
        | refine AW_callg rfl rfl rfl rfl rfl (by first | exact k1) ?_
        | refine AW_nil (fun (h : false = true) => by cases h) ?_
        | refine AW_nil (fun (_ : true = true) => by kernel_rfl) ?_
        | refine Wp_block ?_
        | refine Wp_skip ?_
        | refine Wp_exit ?_
        | refine Wp_ret ?_
      exact ⟨.inr rfl, _, .cell _ _ _ _ _ _ _ _ _ _ _ ty_num rfl rfl rfl (.cell _ _ _ _ _ _ _ _ _ _ _ ty_num rfl rfl rfl (.tmp _ _ _ _ rfl .nil)), rfl⟩
    | true =>
      rw [h2] at k2 h
      cases h3 : rightInt s with
      | false =>
        rw [h3] at k3
        repeat first
          | refine Wp_seq ?_
          | refine Wp_region tm_mixed ?_
          | refine AW_move rfl rfl ?_
          | refine AW_assign rfl rfl ?_
          | refine AW_load rfl ty_num rfl rfl rfl rfl ?_
          | refine AW_store ty_num rfl rfl rfl rfl rfl rfl rfl ?_
          | refine AW_extract rfl rfl rfl ?_
          | refine AW_alloc rfl tz_num ?_
          | refine AW_box rfl rfl (row := true) rfl (fun h => by cases h) rfl ?_
          | refine AW_not rfl rfl ?_
          | refine AW_build rfl tb_num rfl ?_
          | refine AW_call rfl rfl (by first | exact k1 | exact k2 | exact k3) ?_
          | refine AW_ints rfl tu_nums ti_num ti_size ti_zero rfl rfl rfl (by first | exact .cons _ _ _ _ _ rfl (.cons _ _ _ _ _ rfl (.nil _)) | exact .cons _ _ _ _ _ rfl (.cons _ _ _ _ _ rfl (.cons _ _ _ _ _ rfl (.cons _ _ _ _ _ rfl (.nil _)))) | exact .cons _ _ _ _ _ rfl (.cons _ _ _ _ _ rfl (.cons _ _ _ _ _ rfl (.nil _))) | exact .cons _ _ _ _ _ rfl (.cons _ _ _ _ _ rfl (.cons _ _ _ _ _ rfl (.cons _ _ _ _ _ rfl (.cons _ _ _ _ _ rfl (.nil _)))))) ?_
          | refine AW_fieldAddr rfl tf_neg rfl rfl ?_ | refine AW_fieldAddr rfl tf_mag rfl rfl ?_ | refine AW_load rfl ty_bool rfl rfl rfl rfl ?_ | refine AW_load rfl ty_mag rfl rfl rfl rfl ?_ | refine AW_beq rfl Tryz.underlying4 rfl rfl ?_ | refine AW_bne rfl Tryz.underlying4 rfl rfl ?_ | refine AW_len rfl rfl Tryz.underlying22 ?_ | refine AW_ge rfl rfl rfl ?_ | refine AW_gt rfl rfl rfl ?_
          | refine AW_pickT rfl rfl rfl ?_
          | refine AW_pickF rfl rfl rfl ?_
          | refine AW_skip rfl rfl rfl rfl ?_
          | refine AW_pickTg rfl rfl rfl rfl rfl rfl ?_
          | refine AW_pickFg rfl rfl rfl rfl rfl rfl ?_
          | refine AW_moveg rfl rfl rfl rfl rfl ?_
          | refine AW_notg rfl rfl rfl rfl rfl ?_
          | refine AW_eqg rfl rfl rfl rfl rfl rfl ?_
          | refine AW_eq rfl rfl rfl ?_
          | refine AW_loadg rfl rfl rfl rfl ty_num rfl rfl rfl rfl ?_
          | refine AW_callg rfl rfl rfl rfl rfl (by first | exact k1 | exact k2 | exact k3) ?_
          | refine AW_nil (fun (h : false = true) => by cases h) ?_
          | refine AW_nil (fun (_ : true = true) => by kernel_rfl) ?_
          | refine Wp_block ?_
          | refine Wp_skip ?_
          | refine Wp_exit ?_
          | refine Wp_ret ?_
        refine Wp_condT rfl ?_
        repeat first
          | refine Wp_seq ?_
          | refine Wp_region tm_mixed ?_
          | refine AW_move rfl rfl ?_
          | refine AW_assign rfl rfl ?_
          | refine AW_load rfl ty_num rfl rfl rfl rfl ?_
          | refine AW_store ty_num rfl rfl rfl rfl rfl rfl rfl ?_
          | refine AW_extract rfl rfl rfl ?_
          | refine AW_alloc rfl tz_num ?_
          | refine AW_box rfl rfl (row := true) rfl (fun h => by cases h) rfl ?_
          | refine AW_not rfl rfl ?_
          | refine AW_build rfl tb_num rfl ?_
          | refine AW_call rfl rfl (by first | exact k1) ?_
          | refine AW_ints rfl tu_nums ti_num ti_size ti_zero rfl rfl rfl (by first | exact .cons _ _ _ _ _ rfl (.cons _ _ _ _ _ rfl (.nil _)) | exact .cons _ _ _ _ _ rfl (.cons _ _ _ _ _ rfl (.cons _ _ _ _ _ rfl (.cons _ _ _ _ _ rfl (.nil _)))) | exact .cons _ _ _ _ _ rfl (.cons _ _ _ _ _ rfl (.cons _ _ _ _ _ rfl (.nil _))) | exact .cons _ _ _ _ _ rfl (.cons _ _ _ _ _ rfl (.cons _ _ _ _ _ rfl (.cons _ _ _ _ _ rfl (.cons _ _ _ _ _ rfl (.nil _)))))) ?_
          | refine AW_fieldAddr rfl tf_neg rfl rfl ?_ | refine AW_fieldAddr rfl tf_mag rfl rfl ?_ | refine AW_load rfl ty_bool rfl rfl rfl rfl ?_ | refine AW_load rfl ty_mag rfl rfl rfl rfl ?_ | refine AW_beq rfl Tryz.underlying4 rfl rfl ?_ | refine AW_bne rfl Tryz.underlying4 rfl rfl ?_ | refine AW_len rfl rfl Tryz.underlying22 ?_ | refine AW_ge rfl rfl rfl ?_ | refine AW_gt rfl rfl rfl ?_
          | refine AW_pickT rfl rfl rfl ?_
          | refine AW_pickF rfl rfl rfl ?_
          | refine AW_skip rfl rfl rfl rfl ?_
          | refine AW_pickTg rfl rfl rfl rfl rfl rfl ?_
          | refine AW_pickFg rfl rfl rfl rfl rfl rfl ?_
          | refine AW_moveg rfl rfl rfl rfl rfl ?_
          | refine AW_notg rfl rfl rfl rfl rfl ?_
          | refine AW_eqg rfl rfl rfl rfl rfl rfl ?_
          | refine AW_eq rfl rfl rfl ?_
          | refine AW_loadg rfl rfl rfl rfl ty_num rfl rfl rfl rfl ?_
          | refine AW_callg rfl rfl rfl rfl rfl (by first | exact k1) ?_
          | refine AW_nil (fun (h : false = true) => by cases h) ?_
          | refine AW_nil (fun (_ : true = true) => by kernel_rfl) ?_
          | refine Wp_block ?_
          | refine Wp_skip ?_
          | refine Wp_exit ?_
          | refine Wp_ret ?_
        exact ⟨.inr rfl, _, .cell _ _ _ _ _ _ _ _ _ _ _ ty_num rfl rfl rfl (.cell _ _ _ _ _ _ _ _ _ _ _ ty_num rfl rfl rfl (.tmp _ _ _ _ rfl .nil)), rfl⟩
      | true =>
        rw [h3] at k3 h
        rw [show rightInt n = false from h] at k4
        repeat first
          | refine Wp_seq ?_
          | refine Wp_region tm_mixed ?_
          | refine AW_move rfl rfl ?_
          | refine AW_assign rfl rfl ?_
          | refine AW_load rfl ty_num rfl rfl rfl rfl ?_
          | refine AW_store ty_num rfl rfl rfl rfl rfl rfl rfl ?_
          | refine AW_extract rfl rfl rfl ?_
          | refine AW_alloc rfl tz_num ?_
          | refine AW_box rfl rfl (row := true) rfl (fun h => by cases h) rfl ?_
          | refine AW_not rfl rfl ?_
          | refine AW_build rfl tb_num rfl ?_
          | refine AW_call rfl rfl (by first | exact k1 | exact k2 | exact k3 | exact k4) ?_
          | refine AW_ints rfl tu_nums ti_num ti_size ti_zero rfl rfl rfl (by first | exact .cons _ _ _ _ _ rfl (.cons _ _ _ _ _ rfl (.nil _)) | exact .cons _ _ _ _ _ rfl (.cons _ _ _ _ _ rfl (.cons _ _ _ _ _ rfl (.cons _ _ _ _ _ rfl (.nil _)))) | exact .cons _ _ _ _ _ rfl (.cons _ _ _ _ _ rfl (.cons _ _ _ _ _ rfl (.nil _))) | exact .cons _ _ _ _ _ rfl (.cons _ _ _ _ _ rfl (.cons _ _ _ _ _ rfl (.cons _ _ _ _ _ rfl (.cons _ _ _ _ _ rfl (.nil _)))))) ?_
          | refine AW_fieldAddr rfl tf_neg rfl rfl ?_ | refine AW_fieldAddr rfl tf_mag rfl rfl ?_ | refine AW_load rfl ty_bool rfl rfl rfl rfl ?_ | refine AW_load rfl ty_mag rfl rfl rfl rfl ?_ | refine AW_beq rfl Tryz.underlying4 rfl rfl ?_ | refine AW_bne rfl Tryz.underlying4 rfl rfl ?_ | refine AW_len rfl rfl Tryz.underlying22 ?_ | refine AW_ge rfl rfl rfl ?_ | refine AW_gt rfl rfl rfl ?_
          | refine AW_pickT rfl rfl rfl ?_
          | refine AW_pickF rfl rfl rfl ?_
          | refine AW_skip rfl rfl rfl rfl ?_
          | refine AW_pickTg rfl rfl rfl rfl rfl rfl ?_
          | refine AW_pickFg rfl rfl rfl rfl rfl rfl ?_
          | refine AW_moveg rfl rfl rfl rfl rfl ?_
          | refine AW_notg rfl rfl rfl rfl rfl ?_
          | refine AW_eqg rfl rfl rfl rfl rfl rfl ?_
          | refine AW_eq rfl rfl rfl ?_
          | refine AW_loadg rfl rfl rfl rfl ty_num rfl rfl rfl rfl ?_
          | refine AW_callg rfl rfl rfl rfl rfl (by first | exact k1 | exact k2 | exact k3 | exact k4) ?_
          | refine AW_nil (fun (h : false = true) => by cases h) ?_
          | refine AW_nil (fun (_ : true = true) => by kernel_rfl) ?_
          | refine Wp_block ?_
          | refine Wp_skip ?_
          | refine Wp_exit ?_
          | refine Wp_ret ?_
        refine Wp_condT rfl ?_
        repeat first
          | refine Wp_seq ?_
          | refine Wp_region tm_mixed ?_
          | refine AW_move rfl rfl ?_
          | refine AW_assign rfl rfl ?_
          | refine AW_load rfl ty_num rfl rfl rfl rfl ?_
          | refine AW_store ty_num rfl rfl rfl rfl rfl rfl rfl ?_
          | refine AW_extract rfl rfl rfl ?_
          | refine AW_alloc rfl tz_num ?_
          | refine AW_box rfl rfl (row := true) rfl (fun h => by cases h) rfl ?_
          | refine AW_not rfl rfl ?_
          | refine AW_build rfl tb_num rfl ?_
          | refine AW_call rfl rfl (by first | exact k1) ?_
          | refine AW_ints rfl tu_nums ti_num ti_size ti_zero rfl rfl rfl (by first | exact .cons _ _ _ _ _ rfl (.cons _ _ _ _ _ rfl (.nil _)) | exact .cons _ _ _ _ _ rfl (.cons _ _ _ _ _ rfl (.cons _ _ _ _ _ rfl (.cons _ _ _ _ _ rfl (.nil _)))) | exact .cons _ _ _ _ _ rfl (.cons _ _ _ _ _ rfl (.cons _ _ _ _ _ rfl (.nil _))) | exact .cons _ _ _ _ _ rfl (.cons _ _ _ _ _ rfl (.cons _ _ _ _ _ rfl (.cons _ _ _ _ _ rfl (.cons _ _ _ _ _ rfl (.nil _)))))) ?_
          | refine AW_fieldAddr rfl tf_neg rfl rfl ?_ | refine AW_fieldAddr rfl tf_mag rfl rfl ?_ | refine AW_load rfl ty_bool rfl rfl rfl rfl ?_ | refine AW_load rfl ty_mag rfl rfl rfl rfl ?_ | refine AW_beq rfl Tryz.underlying4 rfl rfl ?_ | refine AW_bne rfl Tryz.underlying4 rfl rfl ?_ | refine AW_len rfl rfl Tryz.underlying22 ?_ | refine AW_ge rfl rfl rfl ?_ | refine AW_gt rfl rfl rfl ?_
          | refine AW_pickT rfl rfl rfl ?_
          | refine AW_pickF rfl rfl rfl ?_
          | refine AW_skip rfl rfl rfl rfl ?_
          | refine AW_pickTg rfl rfl rfl rfl rfl rfl ?_
          | refine AW_pickFg rfl rfl rfl rfl rfl rfl ?_
          | refine AW_moveg rfl rfl rfl rfl rfl ?_
          | refine AW_notg rfl rfl rfl rfl rfl ?_
          | refine AW_eqg rfl rfl rfl rfl rfl rfl ?_
          | refine AW_eq rfl rfl rfl ?_
          | refine AW_loadg rfl rfl rfl rfl ty_num rfl rfl rfl rfl ?_
          | refine AW_callg rfl rfl rfl rfl rfl (by first | exact k1) ?_
          | refine AW_nil (fun (h : false = true) => by cases h) ?_
          | refine AW_nil (fun (_ : true = true) => by kernel_rfl) ?_
          | refine Wp_block ?_
          | refine Wp_skip ?_
          | refine Wp_exit ?_
          | refine Wp_ret ?_
        exact ⟨.inr rfl, _, .cell _ _ _ _ _ _ _ _ _ _ _ ty_num rfl rfl rfl (.cell _ _ _ _ _ _ _ _ _ _ _ ty_num rfl rfl rfl (.tmp _ _ _ _ rfl .nil)), rfl⟩
set_option maxHeartbeats 1000000 in
set_option maxRecDepth 100000 in
theorem ct_gJoin_bad (r m s n : Raw) (h : (rightInt r && (rightInt m && (rightInt s && rightInt n))) = false) :
    Ct Tryz.prog 34 [aNum r, aNum m, aNum s, aNum n] (.tup [aInt (false, []), aInt (false, []), aI 2]) := by
  have kR := ct_right [r, m, s, n] (Nat.le_of_ble_eq_true rfl)
  have e0 : [r, m, s, n].all rightInt = false := by simpa using h
  rw [e0] at kR
  refine ct_of_wp [.cell 8 24, .cell 9 24, .tmp 10] [(0, aNum r), (1, aNum m), (2, aNum s), (3, aNum n)] 168 Tryz.func34 rfl rfl rfl rfl rfl rfl rfl rfl ?_
  intro G0 w0
  repeat first
    | refine Wp_seq ?_
    | refine Wp_region tm_mixed ?_
    | refine AW_move rfl rfl ?_
    | refine AW_assign rfl rfl ?_
    | refine AW_load rfl ty_num rfl rfl rfl rfl ?_
    | refine AW_store ty_num rfl rfl rfl rfl rfl rfl rfl ?_
    | refine AW_extract rfl rfl rfl ?_
    | refine AW_alloc rfl tz_num ?_
    | refine AW_box rfl rfl (row := true) rfl (fun h => by cases h) rfl ?_
    | refine AW_not rfl rfl ?_
    | refine AW_build rfl tb_num rfl ?_
    | refine AW_call rfl rfl (by first | exact kR) ?_
    | refine AW_ints rfl tu_nums ti_num ti_size ti_zero rfl rfl rfl (by first | exact .cons _ _ _ _ _ rfl (.cons _ _ _ _ _ rfl (.nil _)) | exact .cons _ _ _ _ _ rfl (.cons _ _ _ _ _ rfl (.cons _ _ _ _ _ rfl (.cons _ _ _ _ _ rfl (.nil _)))) | exact .cons _ _ _ _ _ rfl (.cons _ _ _ _ _ rfl (.cons _ _ _ _ _ rfl (.nil _))) | exact .cons _ _ _ _ _ rfl (.cons _ _ _ _ _ rfl (.cons _ _ _ _ _ rfl (.cons _ _ _ _ _ rfl (.cons _ _ _ _ _ rfl (.nil _)))))) ?_
    | refine AW_fieldAddr rfl tf_neg rfl rfl ?_ | refine AW_fieldAddr rfl tf_mag rfl rfl ?_ | refine AW_load rfl ty_bool rfl rfl rfl rfl ?_ | refine AW_load rfl ty_mag rfl rfl rfl rfl ?_ | refine AW_beq rfl Tryz.underlying4 rfl rfl ?_ | refine AW_bne rfl Tryz.underlying4 rfl rfl ?_ | refine AW_len rfl rfl Tryz.underlying22 ?_ | refine AW_ge rfl rfl rfl ?_ | refine AW_gt rfl rfl rfl ?_
    | refine AW_pickT rfl rfl rfl ?_
    | refine AW_pickF rfl rfl rfl ?_
    | refine AW_skip rfl rfl rfl rfl ?_
    | refine AW_pickTg rfl rfl rfl rfl rfl rfl ?_
    | refine AW_pickFg rfl rfl rfl rfl rfl rfl ?_
    | refine AW_moveg rfl rfl rfl rfl rfl ?_
    | refine AW_notg rfl rfl rfl rfl rfl ?_
    | refine AW_eqg rfl rfl rfl rfl rfl rfl ?_
    | refine AW_eq rfl rfl rfl ?_
    | refine AW_loadg rfl rfl rfl rfl ty_num rfl rfl rfl rfl ?_
    | refine AW_callg rfl rfl rfl rfl rfl (by first | exact kR) ?_
    | refine AW_nil (fun (h : false = true) => by cases h) ?_
    | refine AW_nil (fun (_ : true = true) => by kernel_rfl) ?_
    | refine Wp_block ?_
    | refine Wp_skip ?_
    | refine Wp_exit ?_
    | refine Wp_ret ?_
  refine Wp_condT rfl ?_
  repeat first
    | refine Wp_seq ?_
    | refine Wp_region tm_mixed ?_
    | refine AW_move rfl rfl ?_
    | refine AW_assign rfl rfl ?_
    | refine AW_load rfl ty_num rfl rfl rfl rfl ?_
    | refine AW_store ty_num rfl rfl rfl rfl rfl rfl rfl ?_
    | refine AW_extract rfl rfl rfl ?_
    | refine AW_alloc rfl tz_num ?_
    | refine AW_box rfl rfl (row := true) rfl (fun h => by cases h) rfl ?_
    | refine AW_not rfl rfl ?_
    | refine AW_build rfl tb_num rfl ?_
    | refine AW_call rfl rfl (by first | exact kR) ?_
    | refine AW_ints rfl tu_nums ti_num ti_size ti_zero rfl rfl rfl (by first | exact .cons _ _ _ _ _ rfl (.cons _ _ _ _ _ rfl (.nil _)) | exact .cons _ _ _ _ _ rfl (.cons _ _ _ _ _ rfl (.cons _ _ _ _ _ rfl (.cons _ _ _ _ _ rfl (.nil _)))) | exact .cons _ _ _ _ _ rfl (.cons _ _ _ _ _ rfl (.cons _ _ _ _ _ rfl (.nil _))) | exact .cons _ _ _ _ _ rfl (.cons _ _ _ _ _ rfl (.cons _ _ _ _ _ rfl (.cons _ _ _ _ _ rfl (.cons _ _ _ _ _ rfl (.nil _)))))) ?_
    | refine AW_fieldAddr rfl tf_neg rfl rfl ?_ | refine AW_fieldAddr rfl tf_mag rfl rfl ?_ | refine AW_load rfl ty_bool rfl rfl rfl rfl ?_ | refine AW_load rfl ty_mag rfl rfl rfl rfl ?_ | refine AW_beq rfl Tryz.underlying4 rfl rfl ?_ | refine AW_bne rfl Tryz.underlying4 rfl rfl ?_ | refine AW_len rfl rfl Tryz.underlying22 ?_ | refine AW_ge rfl rfl rfl ?_ | refine AW_gt rfl rfl rfl ?_
    | refine AW_pickT rfl rfl rfl ?_
    | refine AW_pickF rfl rfl rfl ?_
    | refine AW_skip rfl rfl rfl rfl ?_
    | refine AW_pickTg rfl rfl rfl rfl rfl rfl ?_
    | refine AW_pickFg rfl rfl rfl rfl rfl rfl ?_
    | refine AW_moveg rfl rfl rfl rfl rfl ?_
    | refine AW_notg rfl rfl rfl rfl rfl ?_
    | refine AW_eqg rfl rfl rfl rfl rfl rfl ?_
    | refine AW_eq rfl rfl rfl ?_
    | refine AW_loadg rfl rfl rfl rfl ty_num rfl rfl rfl rfl ?_
    | refine AW_callg rfl rfl rfl rfl rfl (by first | exact kR) ?_
    | refine AW_nil (fun (h : false = true) => by cases h) ?_
    | refine AW_nil (fun (_ : true = true) => by kernel_rfl) ?_
    | refine Wp_block ?_
    | refine Wp_skip ?_
    | refine Wp_exit ?_
    | refine Wp_ret ?_
  exact ⟨.inr rfl, _, .cell _ _ _ _ _ _ _ _ _ _ _ ty_num rfl rfl rfl (.cell _ _ _ _ _ _ _ _ _ _ _ ty_num rfl rfl rfl (.tmp _ _ _ _ rfl .nil)), rfl⟩
theorem long16_four {x y z t : Raw} (h : long16 [x, y, z, t] = false) : x.2.length ≤ 16 ∧ y.2.length ≤ 16 ∧ z.2.length ≤ 16 ∧ t.2.length ≤ 16 := by
  unfold long16 at h
  simp only [List.any_cons, List.any_nil, Bool.or_false, Bool.or_eq_false_iff, decide_eq_false_iff_not] at h
  omega
set_option maxHeartbeats 2000000 in
set_option maxRecDepth 100000 in
theorem ct_GcdJoins (x y z t : Raw) (hx : Small x.2) (hy : Small y.2) (hz : Small z.2) (ht : Small t.2) : Ct Tryz.prog 6 [aNum x, aNum y, aNum z, aNum t] (.val (aB true)) := by
  refine ct_of_wp [.tmp 8] [(0, aNum x), (1, aNum y), (2, aNum z), (3, aNum t)] 72 Tryz.func6 rfl rfl rfl rfl rfl rfl rfl rfl ?_
  intro G0 w0
  have ka := ct_law20awake
  have kl := ct_law20long [x, y, z, t] (Nat.le_of_ble_eq_true rfl)
  cases hl : long16 [x, y, z, t] with
  | true =>
    rw [hl] at kl
    repeat first
      | refine Wp_seq ?_
      | refine Wp_region tm_mixed ?_
      | refine AW_move rfl rfl ?_
      | refine AW_assign rfl rfl ?_
      | refine AW_load rfl ty_num rfl rfl rfl rfl ?_
      | refine AW_store ty_num rfl rfl rfl rfl rfl rfl rfl ?_
      | refine AW_extract rfl rfl rfl ?_
      | refine AW_alloc rfl tz_num ?_
      | refine AW_box rfl rfl (row := true) rfl (fun h => by cases h) rfl ?_
      | refine AW_not rfl rfl ?_
      | refine AW_build rfl tb_num rfl ?_
      | refine AW_call rfl rfl (by first | exact ka | exact kl) ?_
      | refine AW_ints rfl tu_nums ti_num ti_size ti_zero rfl rfl rfl (by first | exact .cons _ _ _ _ _ rfl (.cons _ _ _ _ _ rfl (.nil _)) | exact .cons _ _ _ _ _ rfl (.cons _ _ _ _ _ rfl (.cons _ _ _ _ _ rfl (.cons _ _ _ _ _ rfl (.nil _)))) | exact .cons _ _ _ _ _ rfl (.cons _ _ _ _ _ rfl (.cons _ _ _ _ _ rfl (.nil _))) | exact .cons _ _ _ _ _ rfl (.cons _ _ _ _ _ rfl (.cons _ _ _ _ _ rfl (.cons _ _ _ _ _ rfl (.cons _ _ _ _ _ rfl (.nil _)))))) ?_
      | refine AW_fieldAddr rfl tf_neg rfl rfl ?_ | refine AW_fieldAddr rfl tf_mag rfl rfl ?_ | refine AW_load rfl ty_bool rfl rfl rfl rfl ?_ | refine AW_load rfl ty_mag rfl rfl rfl rfl ?_ | refine AW_beq rfl Tryz.underlying4 rfl rfl ?_ | refine AW_bne rfl Tryz.underlying4 rfl rfl ?_ | refine AW_len rfl rfl Tryz.underlying22 ?_ | refine AW_ge rfl rfl rfl ?_ | refine AW_gt rfl rfl rfl ?_
      | refine AW_pickT rfl rfl rfl ?_
      | refine AW_pickF rfl rfl rfl ?_
      | refine AW_skip rfl rfl rfl rfl ?_
      | refine AW_pickTg rfl rfl rfl rfl rfl rfl ?_
      | refine AW_pickFg rfl rfl rfl rfl rfl rfl ?_
      | refine AW_moveg rfl rfl rfl rfl rfl ?_
      | refine AW_notg rfl rfl rfl rfl rfl ?_
      | refine AW_eqg rfl rfl rfl rfl rfl rfl ?_
      | refine AW_eq rfl rfl rfl ?_
      | refine AW_loadg rfl rfl rfl rfl ty_num rfl rfl rfl rfl ?_
      | refine AW_callg rfl rfl rfl rfl rfl (by first | exact ka | exact kl) ?_
      | refine AW_nil (fun (h : false = true) => by cases h) ?_
      | refine AW_nil (fun (_ : true = true) => by kernel_rfl) ?_
      | refine Wp_block ?_
      | refine Wp_skip ?_
      | refine Wp_exit ?_
      | refine Wp_ret ?_
    refine Wp_condF rfl ?_
    repeat first
      | refine Wp_seq ?_
      | refine Wp_region tm_mixed ?_
      | refine AW_move rfl rfl ?_
      | refine AW_assign rfl rfl ?_
      | refine AW_load rfl ty_num rfl rfl rfl rfl ?_
      | refine AW_store ty_num rfl rfl rfl rfl rfl rfl rfl ?_
      | refine AW_extract rfl rfl rfl ?_
      | refine AW_alloc rfl tz_num ?_
      | refine AW_box rfl rfl (row := true) rfl (fun h => by cases h) rfl ?_
      | refine AW_not rfl rfl ?_
      | refine AW_build rfl tb_num rfl ?_
      | refine AW_call rfl rfl (by first | exact ka | exact kl) ?_
      | refine AW_ints rfl tu_nums ti_num ti_size ti_zero rfl rfl rfl (by first | exact .cons _ _ _ _ _ rfl (.cons _ _ _ _ _ rfl (.nil _)) | exact .cons _ _ _ _ _ rfl (.cons _ _ _ _ _ rfl (.cons _ _ _ _ _ rfl (.cons _ _ _ _ _ rfl (.nil _)))) | exact .cons _ _ _ _ _ rfl (.cons _ _ _ _ _ rfl (.cons _ _ _ _ _ rfl (.nil _))) | exact .cons _ _ _ _ _ rfl (.cons _ _ _ _ _ rfl (.cons _ _ _ _ _ rfl (.cons _ _ _ _ _ rfl (.cons _ _ _ _ _ rfl (.nil _)))))) ?_
      | refine AW_fieldAddr rfl tf_neg rfl rfl ?_ | refine AW_fieldAddr rfl tf_mag rfl rfl ?_ | refine AW_load rfl ty_bool rfl rfl rfl rfl ?_ | refine AW_load rfl ty_mag rfl rfl rfl rfl ?_ | refine AW_beq rfl Tryz.underlying4 rfl rfl ?_ | refine AW_bne rfl Tryz.underlying4 rfl rfl ?_ | refine AW_len rfl rfl Tryz.underlying22 ?_ | refine AW_ge rfl rfl rfl ?_ | refine AW_gt rfl rfl rfl ?_
      | refine AW_pickT rfl rfl rfl ?_
      | refine AW_pickF rfl rfl rfl ?_
      | refine AW_skip rfl rfl rfl rfl ?_
      | refine AW_pickTg rfl rfl rfl rfl rfl rfl ?_
      | refine AW_pickFg rfl rfl rfl rfl rfl rfl ?_
      | refine AW_moveg rfl rfl rfl rfl rfl ?_
      | refine AW_notg rfl rfl rfl rfl rfl ?_
      | refine AW_eqg rfl rfl rfl rfl rfl rfl ?_
      | refine AW_eq rfl rfl rfl ?_
      | refine AW_loadg rfl rfl rfl rfl ty_num rfl rfl rfl rfl ?_
      | refine AW_callg rfl rfl rfl rfl rfl (by first | exact ka | exact kl) ?_
      | refine AW_nil (fun (h : false = true) => by cases h) ?_
      | refine AW_nil (fun (_ : true = true) => by kernel_rfl) ?_
      | refine Wp_block ?_
      | refine Wp_skip ?_
      | refine Wp_exit ?_
      | refine Wp_ret ?_
    refine Wp_condT rfl ?_
    repeat first
      | refine Wp_seq ?_
      | refine Wp_region tm_mixed ?_
      | refine AW_move rfl rfl ?_
      | refine AW_assign rfl rfl ?_
      | refine AW_load rfl ty_num rfl rfl rfl rfl ?_
      | refine AW_store ty_num rfl rfl rfl rfl rfl rfl rfl ?_
      | refine AW_extract rfl rfl rfl ?_
      | refine AW_alloc rfl tz_num ?_
      | refine AW_box rfl rfl (row := true) rfl (fun h => by cases h) rfl ?_
      | refine AW_not rfl rfl ?_
      | refine AW_build rfl tb_num rfl ?_
      | refine AW_call rfl rfl (by first | exact ka | exact kl) ?_
      | refine AW_ints rfl tu_nums ti_num ti_size ti_zero rfl rfl rfl (by first | exact .cons _ _ _ _ _ rfl (.cons _ _ _ _ _ rfl (.nil _)) | exact .cons _ _ _ _ _ rfl (.cons _ _ _ _ _ rfl (.cons _ _ _ _ _ rfl (.cons _ _ _ _ _ rfl (.nil _)))) | exact .cons _ _ _ _ _ rfl (.cons _ _ _ _ _ rfl (.cons _ _ _ _ _ rfl (.nil _))) | exact .cons _ _ _ _ _ rfl (.cons _ _ _ _ _ rfl (.cons _ _ _ _ _ rfl (.cons _ _ _ _ _ rfl (.cons _ _ _ _ _ rfl (.nil _)))))) ?_
      | refine AW_fieldAddr rfl tf_neg rfl rfl ?_ | refine AW_fieldAddr rfl tf_mag rfl rfl ?_ | refine AW_load rfl ty_bool rfl rfl rfl rfl ?_ | refine AW_load rfl ty_mag rfl rfl rfl rfl ?_ | refine AW_beq rfl Tryz.underlying4 rfl rfl ?_ | refine AW_bne rfl Tryz.underlying4 rfl rfl ?_ | refine AW_len rfl rfl Tryz.underlying22 ?_ | refine AW_ge rfl rfl rfl ?_ | refine AW_gt rfl rfl rfl ?_
      | refine AW_pickT rfl rfl rfl ?_
      | refine AW_pickF rfl rfl rfl ?_
      | refine AW_skip rfl rfl rfl rfl ?_
      | refine AW_pickTg rfl rfl rfl rfl rfl rfl ?_
      | refine AW_pickFg rfl rfl rfl rfl rfl rfl ?_
      | refine AW_moveg rfl rfl rfl rfl rfl ?_
      | refine AW_notg rfl rfl rfl rfl rfl ?_
      | refine AW_eqg rfl rfl rfl rfl rfl rfl ?_
      | refine AW_eq rfl rfl rfl ?_
      | refine AW_loadg rfl rfl rfl rfl ty_num rfl rfl rfl rfl ?_
      | refine AW_callg rfl rfl rfl rfl rfl (by first | exact ka | exact kl) ?_
      | refine AW_nil (fun (h : false = true) => by cases h) ?_
      | refine AW_nil (fun (_ : true = true) => by kernel_rfl) ?_
      | refine Wp_block ?_
      | refine Wp_skip ?_
      | refine Wp_exit ?_
      | refine Wp_ret ?_
    exact ⟨.inr rfl, _, .tmp _ _ _ _ rfl .nil, rfl⟩
  | false =>
    rw [hl] at kl
    obtain ⟨l1, l2, l3, l4⟩ := long16_four hl
    have hall : ∀ u ∈ [x, y, z, t], u.2.length ≤ 1099511627776 := by
      intro u hu
      simp only [List.mem_cons, List.not_mem_nil, or_false] at hu
      rcases hu with rfl | rfl | rfl | rfl <;> omega
    have k1 := ct_LentWholes [x, y, z, t] (Nat.le_of_ble_eq_true rfl) hall
    have k2 := ct_KeptWholes [x, y, z, t] (Nat.le_of_ble_eq_true rfl) hall
    repeat first
      | refine Wp_seq ?_
      | refine Wp_region tm_mixed ?_
      | refine AW_move rfl rfl ?_
      | refine AW_assign rfl rfl ?_
      | refine AW_load rfl ty_num rfl rfl rfl rfl ?_
      | refine AW_store ty_num rfl rfl rfl rfl rfl rfl rfl ?_
      | refine AW_extract rfl rfl rfl ?_
      | refine AW_alloc rfl tz_num ?_
      | refine AW_box rfl rfl (row := true) rfl (fun h => by cases h) rfl ?_
      | refine AW_not rfl rfl ?_
      | refine AW_build rfl tb_num rfl ?_
      | refine AW_call rfl rfl (by first | exact ka | exact kl) ?_
      | refine AW_ints rfl tu_nums ti_num ti_size ti_zero rfl rfl rfl (by first | exact .cons _ _ _ _ _ rfl (.cons _ _ _ _ _ rfl (.nil _)) | exact .cons _ _ _ _ _ rfl (.cons _ _ _ _ _ rfl (.cons _ _ _ _ _ rfl (.cons _ _ _ _ _ rfl (.nil _)))) | exact .cons _ _ _ _ _ rfl (.cons _ _ _ _ _ rfl (.cons _ _ _ _ _ rfl (.nil _))) | exact .cons _ _ _ _ _ rfl (.cons _ _ _ _ _ rfl (.cons _ _ _ _ _ rfl (.cons _ _ _ _ _ rfl (.cons _ _ _ _ _ rfl (.nil _)))))) ?_
      | refine AW_fieldAddr rfl tf_neg rfl rfl ?_ | refine AW_fieldAddr rfl tf_mag rfl rfl ?_ | refine AW_load rfl ty_bool rfl rfl rfl rfl ?_ | refine AW_load rfl ty_mag rfl rfl rfl rfl ?_ | refine AW_beq rfl Tryz.underlying4 rfl rfl ?_ | refine AW_bne rfl Tryz.underlying4 rfl rfl ?_ | refine AW_len rfl rfl Tryz.underlying22 ?_ | refine AW_ge rfl rfl rfl ?_ | refine AW_gt rfl rfl rfl ?_
      | refine AW_pickT rfl rfl rfl ?_
      | refine AW_pickF rfl rfl rfl ?_
      | refine AW_skip rfl rfl rfl rfl ?_
      | refine AW_pickTg rfl rfl rfl rfl rfl rfl ?_
      | refine AW_pickFg rfl rfl rfl rfl rfl rfl ?_
      | refine AW_moveg rfl rfl rfl rfl rfl ?_
      | refine AW_notg rfl rfl rfl rfl rfl ?_
      | refine AW_eqg rfl rfl rfl rfl rfl rfl ?_
      | refine AW_eq rfl rfl rfl ?_
      | refine AW_loadg rfl rfl rfl rfl ty_num rfl rfl rfl rfl ?_
      | refine AW_callg rfl rfl rfl rfl rfl (by first | exact ka | exact kl) ?_
      | refine AW_nil (fun (h : false = true) => by cases h) ?_
      | refine AW_nil (fun (_ : true = true) => by kernel_rfl) ?_
      | refine Wp_block ?_
      | refine Wp_skip ?_
      | refine Wp_exit ?_
      | refine Wp_ret ?_
    refine Wp_condF rfl ?_
    repeat first
      | refine Wp_seq ?_
      | refine Wp_region tm_mixed ?_
      | refine AW_move rfl rfl ?_
      | refine AW_assign rfl rfl ?_
      | refine AW_load rfl ty_num rfl rfl rfl rfl ?_
      | refine AW_store ty_num rfl rfl rfl rfl rfl rfl rfl ?_
      | refine AW_extract rfl rfl rfl ?_
      | refine AW_alloc rfl tz_num ?_
      | refine AW_box rfl rfl (row := true) rfl (fun h => by cases h) rfl ?_
      | refine AW_not rfl rfl ?_
      | refine AW_build rfl tb_num rfl ?_
      | refine AW_call rfl rfl (by first | exact ka | exact kl) ?_
      | refine AW_ints rfl tu_nums ti_num ti_size ti_zero rfl rfl rfl (by first | exact .cons _ _ _ _ _ rfl (.cons _ _ _ _ _ rfl (.nil _)) | exact .cons _ _ _ _ _ rfl (.cons _ _ _ _ _ rfl (.cons _ _ _ _ _ rfl (.cons _ _ _ _ _ rfl (.nil _)))) | exact .cons _ _ _ _ _ rfl (.cons _ _ _ _ _ rfl (.cons _ _ _ _ _ rfl (.nil _))) | exact .cons _ _ _ _ _ rfl (.cons _ _ _ _ _ rfl (.cons _ _ _ _ _ rfl (.cons _ _ _ _ _ rfl (.cons _ _ _ _ _ rfl (.nil _)))))) ?_
      | refine AW_fieldAddr rfl tf_neg rfl rfl ?_ | refine AW_fieldAddr rfl tf_mag rfl rfl ?_ | refine AW_load rfl ty_bool rfl rfl rfl rfl ?_ | refine AW_load rfl ty_mag rfl rfl rfl rfl ?_ | refine AW_beq rfl Tryz.underlying4 rfl rfl ?_ | refine AW_bne rfl Tryz.underlying4 rfl rfl ?_ | refine AW_len rfl rfl Tryz.underlying22 ?_ | refine AW_ge rfl rfl rfl ?_ | refine AW_gt rfl rfl rfl ?_
      | refine AW_pickT rfl rfl rfl ?_
      | refine AW_pickF rfl rfl rfl ?_
      | refine AW_skip rfl rfl rfl rfl ?_
      | refine AW_pickTg rfl rfl rfl rfl rfl rfl ?_
      | refine AW_pickFg rfl rfl rfl rfl rfl rfl ?_
      | refine AW_moveg rfl rfl rfl rfl rfl ?_
      | refine AW_notg rfl rfl rfl rfl rfl ?_
      | refine AW_eqg rfl rfl rfl rfl rfl rfl ?_
      | refine AW_eq rfl rfl rfl ?_
      | refine AW_loadg rfl rfl rfl rfl ty_num rfl rfl rfl rfl ?_
      | refine AW_callg rfl rfl rfl rfl rfl (by first | exact ka | exact kl) ?_
      | refine AW_nil (fun (h : false = true) => by cases h) ?_
      | refine AW_nil (fun (_ : true = true) => by kernel_rfl) ?_
      | refine Wp_block ?_
      | refine Wp_skip ?_
      | refine Wp_exit ?_
      | refine Wp_ret ?_
    refine Wp_condF rfl ?_
    have key : ∃ (p q : Raw) (e : Int), p.2.length ≤ 1099511627776 ∧ q.2.length ≤ 1099511627776 ∧ Ct Tryz.prog 34 [aNum x, aNum y, aNum z, aNum t] (.tup [aInt p, aInt q, aI e]) ∧ Ct Tryz.prog 35 [aNum x, aNum y, aNum z, aNum t] (.tup [aInt p, aInt q, aI e]) := by
      cases hr : (rightInt x && (rightInt y && (rightInt z && rightInt t))) with
      | false => exact ⟨_, _, _, by simp, by simp, ct_gJoin_bad x y z t hr, ct_r20Join_bad x y z t hr⟩
      | true =>
        simp only [Bool.and_eq_true] at hr
        obtain ⟨r1, r2, r3, r4⟩ := hr
        obtain ⟨r, rfl, la⟩ := right_z hx r1
        obtain ⟨m, rfl, lb⟩ := right_z hy r2
        obtain ⟨s, rfl, lcc⟩ := right_z hz r3
        obtain ⟨n, rfl, ld⟩ := right_z ht r4
        by_cases hmn : m ≤ 0 ∨ n ≤ 0
        · exact ⟨_, _, _, by simp, by simp, ct_gJoin_low r m s n (by omega) (by omega) (by omega) (by omega) hmn, ct_r20Join_low r m s n (by omega) (by omega) (by omega) (by omega) hmn⟩
        · have m0 : 0 < m := by omega
          have n0 : 0 < n := by omega
          have c1 := ct_gJoin r m s n (by omega) (by omega) (by omega) (by omega) m0 n0
          have c2 := ct_r20Join r m s n (by omega) (by omega) (by omega) (by omega) m0 n0
          by_cases hj : joins r m s n
          · rw [if_pos hj] at c1 c2
            have ll : lc (lcmZ m n).natAbs ≤ 180 := by
              unfold lcmZ
              exact lc_times (j := 90) (k := 90) (by rw [Int.natAbs_natCast]; omega) (by rw [Int.natAbs_natCast]; exact Nat.le_trans (lc_mono (Nat.div_le_self _ _)) (by omega))
            obtain ⟨j0, j1, _⟩ := joinX_spec m0 n0 hj
            have lx : lc (joinX r m s n).natAbs ≤ 180 := Nat.le_trans (lc_mono (by omega)) ll
            exact ⟨_, _, _, raw_len (by omega), raw_len (by omega), c1, c2⟩
          · rw [if_neg hj] at c1 c2
            exact ⟨_, _, _, by simp, by simp, c1, c2⟩
    obtain ⟨p, q, e, hp, hq, c1, c2⟩ := key
    have g1 := c1.weak (a := [aLent x, aLent y, aLent z, aLent t]) ⟨lent_le _, lent_le _, lent_le _, lent_le _, trivial⟩
    have s1 := ct_SameT p hp
    have s2 := ct_SameT q hq
    have he : (e == e) = true := by simp
    clear c1
    have heq : ∀ {d : Option Nat} {ty : TypeId} {pos : String} {aft : Array Edge} {ev : Operand → Option AR} {a b : Operand} {xt yt : TypeId} {k : IntKind}, ev a = some (.val (.one (.i k e))) → ev b = some (.val (.one (.i k e))) → Quiet Tryz.prog ⟨d, .binOp .eql xt a b yt, ty, pos, aft, none⟩ ev (.val (.one (.b true))) := by
      intro d ty pos aft ev a b xt yt k h1 h2
      have := q_eq (P := Tryz.prog) (d := d) (ty := ty) (pos := pos) (aft := aft) (xt := xt) (yt := yt) h1 h2
      rwa [he] at this
    repeat first
      | refine Wp_seq ?_
      | refine Wp_region tm_mixed ?_
      | refine AW_move rfl rfl ?_
      | refine AW_assign rfl rfl ?_
      | refine AW_load rfl ty_num rfl rfl rfl rfl ?_
      | refine AW_store ty_num rfl rfl rfl rfl rfl rfl rfl ?_
      | refine AW_extract rfl rfl rfl ?_
      | refine AW_alloc rfl tz_num ?_
      | refine AW_box rfl rfl (row := true) rfl (fun h => by cases h) rfl ?_
      | refine AW_not rfl rfl ?_
      | refine AW_build rfl tb_num rfl ?_
      | refine AW_call rfl rfl (by first | exact k1 | exact g1 | exact c2 | exact k2 | exact s1 | exact s2) ?_
      | refine AW_ints rfl tu_nums ti_num ti_size ti_zero rfl rfl rfl (by first | exact .cons _ _ _ _ _ rfl (.cons _ _ _ _ _ rfl (.nil _)) | exact .cons _ _ _ _ _ rfl (.cons _ _ _ _ _ rfl (.cons _ _ _ _ _ rfl (.cons _ _ _ _ _ rfl (.nil _)))) | exact .cons _ _ _ _ _ rfl (.cons _ _ _ _ _ rfl (.cons _ _ _ _ _ rfl (.nil _))) | exact .cons _ _ _ _ _ rfl (.cons _ _ _ _ _ rfl (.cons _ _ _ _ _ rfl (.cons _ _ _ _ _ rfl (.cons _ _ _ _ _ rfl (.nil _)))))) ?_
      | refine AW_fieldAddr rfl tf_neg rfl rfl ?_ | refine AW_fieldAddr rfl tf_mag rfl rfl ?_ | refine AW_load rfl ty_bool rfl rfl rfl rfl ?_ | refine AW_load rfl ty_mag rfl rfl rfl rfl ?_ | refine AW_beq rfl Tryz.underlying4 rfl rfl ?_ | refine AW_bne rfl Tryz.underlying4 rfl rfl ?_ | refine AW_len rfl rfl Tryz.underlying22 ?_ | refine AW_ge rfl rfl rfl ?_ | refine AW_gt rfl rfl rfl ?_ | refine AW_quiet rfl (q_rowCAt (k := 0) rfl rfl (Nat.le_of_ble_eq_true rfl) tu_nums ts_num rfl) ?_ | refine AW_quiet rfl (q_rowCAt (k := 1) rfl rfl (Nat.le_of_ble_eq_true rfl) tu_nums ts_num rfl) ?_ | refine AW_quiet rfl (q_rowCAt (k := 2) rfl rfl (Nat.le_of_ble_eq_true rfl) tu_nums ts_num rfl) ?_ | refine AW_quiet rfl (q_rowCAt (k := 3) rfl rfl (Nat.le_of_ble_eq_true rfl) tu_nums ts_num rfl) ?_ | refine AW_quiet rfl (q_atLoad rfl ty_num rfl) ?_ | refine AW_quiet rfl (heq rfl rfl) ?_
      | refine AW_pickT rfl rfl rfl ?_
      | refine AW_pickF rfl rfl rfl ?_
      | refine AW_skip rfl rfl rfl rfl ?_
      | refine AW_pickTg rfl rfl rfl rfl rfl rfl ?_
      | refine AW_pickFg rfl rfl rfl rfl rfl rfl ?_
      | refine AW_moveg rfl rfl rfl rfl rfl ?_
      | refine AW_notg rfl rfl rfl rfl rfl ?_
      | refine AW_eqg rfl rfl rfl rfl rfl rfl ?_
      | refine AW_eq rfl rfl rfl ?_
      | refine AW_loadg rfl rfl rfl rfl ty_num rfl rfl rfl rfl ?_
      | refine AW_callg rfl rfl rfl rfl rfl (by first | exact k1 | exact g1 | exact c2 | exact k2 | exact s1 | exact s2) ?_
      | refine AW_nil (fun (h : false = true) => by cases h) ?_
      | refine AW_nil (fun (_ : true = true) => by kernel_rfl) ?_
      | refine Wp_block ?_
      | refine Wp_skip ?_
      | refine Wp_exit ?_
      | refine Wp_ret ?_
    exact ⟨.inr rfl, _, .tmp _ _ _ _ rfl .nil, rfl⟩
end Go.Proofs.YtonbhpadoplpkaaGreat
/- Arguments are opened; what a call leaves reads as it read. -/
namespace Go.Proofs.YtonbhpadoplpkaaGreat
open Go.ChangeShapes Go.WideShapes Go.ChangeAt Go.RowKit Go.Deep
theorem laid_out : laidOutB Tryz.prog = true := by kernel_rfl
section
variable {H : Type} {enc : TypeId × Value → H}
theorem since_of_below {w w' : World} (h : Below w.heap.size w w') : w.Since w.heap.size w' := ⟨h.os, h.tape, h.output, h.size, h.block⟩
/-- What was read before reads so behind a call that wrote nothing old. -/
theorem stays {t : TypeId} (hr : Tryz.prog.readableRec t = true) (hrow : t < Tryz.prog.types.size) {W W' : World} {sp : Nat → Bool} {v : Value} {d : DataW H} {ps : List MemPlace}
    (h : DataW.Trod enc Tryz.prog W 0 (fun _ => true) true t v d ps) (hb : Below W.heap.size W W') (hl : ∀ p ∈ ps, p.block < W.heap.size) (hs : ∀ p ∈ ps, sp p.block = true) : DataW.Trod enc Tryz.prog W' 0 sp true t v d ps :=
  WideElems.Trod_stays laid_out hr hrow h (fun p hp => (since_of_below hb).sameAt (hl p hp)) hs
set_option maxRecDepth 10000 in
/-- The statement of a law's row, out of a walk that wrote nothing old. -/
theorem post_law {f : Func} {s : ChangeSpec} {W W' : World} {args : Array Value} {v : Value} {ds gs : List (DataW H)} {before : List MemPlace}
    (hW : DataW.Whole enc Tryz.prog f.params.toList s.vars false W args.toList ds gs before) (hb : Below W.heap.size W W')
    (hres : ∀ (b : Nat) (sp : Nat → Bool) (hd : Bool), DataW.TrodAll enc Tryz.prog W' b sp hd f.resultTypes.toList (v.resultList f.resultTypes.size) (s.fn H (ds ++ gs)).results [])
    (hargs : ∀ sp : Nat → Bool, (∀ p ∈ before, sp p.block = true) → DataW.TrodAll enc Tryz.prog W' 0 sp true f.params.toList args.toList (s.fn H (ds ++ gs)).args before)
    (hvars : ∀ sp : Nat → Bool, DataW.TrodVars enc Tryz.prog W' sp s.vars (s.fn H (ds ++ gs)).vars [])
    (hok : ∀ (j : Nat) (t : TypeId) (r : Value), f.resultTypes[j]? = some t → (v.resultList f.resultTypes.size)[j]? = some r → Value.okWide Tryz.prog W' .any 0 t r) :
    s.post enc Tryz.prog f false true false false W args v W' := by
  have hlt : ∀ p ∈ before, p.block < W.heap.size := fun p hp => hW.lt p hp
  have hold : ∀ p ∈ before, (fun b => decide (b < W.heap.size)) p.block = true := fun p hp => by simpa using hlt p hp
  refine ⟨ds, gs, before, [], before, [], hW, hres _ _ _, hargs _ hold, hvars _, World.keptBut_mono (fun p hp => ⟨hp, .inr (.inl hp)⟩) ((since_of_below hb).frame (· ∈ before)), fun _ => ?_⟩
  obtain ⟨_, _, _, _, _, hz, _⟩ := hW
  refine ⟨hok, _, _, ([] ++ before) ++ [], ⟨[] ++ before, [], trodAll_append (hargs _ (fun _ _ => rfl)) (hres _ _ _), hvars _, rfl, ?_, fun h => by cases h⟩, fun p hp _ => by simpa using hp⟩
  intro b off hp
  have hp' : MemPlace.cell b off ∈ before := by simpa using hp
  rw [(since_of_below hb).frozen (a := ⟨b, off, none⟩) (hlt _ hp')]
  exact hz b off hp'
theorem cells_rec : Tryz.prog.cellsOf 24 = 2 := by kernel_rfl
theorem cells_u64 : Tryz.prog.cellsOf 85 = 1 := by kernel_rfl
theorem cells_bool : Tryz.prog.cellsOf 4 = 1 := by kernel_rfl
theorem cells_limbs : Tryz.prog.cellsOf 22 = 1 := by kernel_rfl
/-- A slice of limbs that came in. -/
theorem open_limbs {W : World} {v : Value} {x : DataW H × List MemPlace} {n : Nat} (h : DataW.trod enc Tryz.prog W 0 (fun _ => true) true n 22 [v] = some x) : ∃ A l c xs, v = .slice A l c ∧ l = xs.length ∧ l ≤ c ∧ Lim W W.heap.size A xs := by
  rcases open_ints (k := .u64) Tryz.underlying22 Tryz.underlying85 cells_u64 h with ⟨e, _⟩ | ⟨a, len, cap, zs, e, _, hl, hm, hzl, _, hc, hwf⟩
  · injection e with e
    exact ⟨none, 0, 0, [], e, rfl, Nat.le_refl _, Lim.nil _ _ _⟩
  · injection e with e
    simp only [if_true] at hzl
    have hnn : ∀ z ∈ zs, 0 ≤ z ∧ z < 18446744073709551616 := by
      intro z hz
      have h1 := hwf z hz
      simp only [Lit.wf, IntKind.min, IntKind.max, IntKind.signed, IntKind.bits, Bool.and_eq_true] at h1
      obtain ⟨h2, h3⟩ := h1
      simp at h2 h3
      omega
    refine ⟨some a, len, cap, (zs.take len).map Int.toNat, e, by simp; omega, hl, ?_, fun hp => ⟨a, rfl, ?_, fun j hj => ?_⟩⟩
    · intro y hy
      obtain ⟨z, hz, rfl⟩ := List.mem_map.1 hy
      have h1 := hnn z (List.mem_of_mem_take hz)
      rw [W64_eq]; omega
    · simp at hp
      have h1 := hc 0 (by omega)
      have h2 := World.block_lt_of_cell? W (a.add 0) h1
      rwa [block_of_add] at h2
    · simp at hj
      rw [hc j (by omega)]
      have h1 := hnn (zs.getD j 0) (by
        rw [List.getD_eq_getElem?_getD, List.getElem?_eq_getElem (by omega)]; exact List.getElem_mem _)
      have e1 : ((zs.take len).map Int.toNat).getD j 0 = (zs.getD j 0).toNat := by
        have h2 : j < len := by omega
        have h3 : j < zs.length := by omega
        simp [h2, h3]
      rw [e1]
      congr 2
      omega
set_option maxRecDepth 100000 in
/-- A record that came in. -/
theorem open_raw {W : World} {base : Nat} {v : Value} {d : DataW H} {ps : List MemPlace} (hv : Value.okWide Tryz.prog W .any base 24 v) (h : DataW.Trod enc Tryz.prog W 0 (fun _ => true) true 24 v d ps) : ∃ b A l c xs, v = .agg #[.bool b, .slice A l c] ∧ l = xs.length ∧ l ≤ c ∧ Lim W W.heap.size A xs := by
  obtain ⟨cs, rfl, hsz⟩ := okWide_struct Tryz.underlying24 hv
  rw [cells_rec] at hsz
  obtain ⟨fuel, hf⟩ := h
  obtain ⟨x, y, rfl⟩ : ∃ x y, cs = #[x, y] := by
    obtain ⟨l⟩ := cs
    match l, hsz with
    | [x, y], _ => exact ⟨x, y, rfl⟩
  obtain ⟨xs, k, hk, hxy, _, hxl, hg⟩ := DataW.trod_struct Tryz.underlying24 hf
  match xs, hxl with
  | [y0, y1], _ =>
    have g0 := hg 0 _ rfl
    have g1 := hg 1 _ rfl
    simp [Value.cells, cells_bool, cells_limbs] at g0 g1
    obtain ⟨b, e0, _⟩ := DataW.trod_bool Tryz.underlying4 g0
    obtain ⟨A, l, c, xs, e1, hl1, hc1, hlim⟩ := open_limbs g1
    injection e0 with e0
    exact ⟨b, A, l, c, xs, by rw [e0, e1], hl1, hc1, hlim⟩
end
end Go.Proofs.YtonbhpadoplpkaaGreat
