import Derived.Test.YtonbhpadoplpkaaPc
import Derived.Test.YtonbhpadoplpkaaProg
import Derived.WalkKit
import Derived.Laws.OwnMore
import Derived.Deep.Draws
import Derived.Deep.OwnRows
import Derived.Deep.LoopGhost
import Derived.Deep.QuietTactic
import Derived.BigQuiet
import Derived.Lib.Hide
import Derived.Maps.AppendAt
import Derived.Laws.Rows
import Derived.OneCell
import Derived.Shelf.Spec.BitsCarry
import Derived.Deep.DeepCutAuto
import Derived.Shelf.Small.Bits
import Derived.Shelf.Strconv.Itoa0
import Derived.Shelf.Bits.Mul64
import Derived.Ground.SlgnProg
import Derived.Shelf.SlicesE.Clone
import Derived.Lib.BitFns
import Derived.Deep.CutBlock
import Derived.BigRegion
import Derived.StillTailTactics
import Derived.Deep.AppendLies
import Derived.Orders
import Derived.Lib.SliceRun
import Derived.Deep.MidRow
import Derived.BigCall
import Derived.Great.BuildSlice
import Derived.Deep.RegionWith
import Derived.WalkMore
import Derived.Laws.EntriesVeiled
import Derived.Laws.CopyOwn
import Derived.Test.YtonbhpadoplpkaaRows
import Derived.ProofKit
import Derived.OpenShut
import Derived.Deep.SlicePairs
import Derived.WideKeyArgs
/- Of: Grun, Gof, Gbez, Gjoin, R20. -/
/- The package gcd, by the abstract machine: run. -/
namespace Go.Proofs.Ytonbhpadoplpkaa
open Go.RowKit Go.Deep
/-- The run from rest to rest. -/
def euc (whole : Bool) (n0 n1 : Nat) (x0 y0 x1 y1 : Int) : Nat × Int × Int :=
  if _h : n1 = 0 then (n0, x0, y0)
  else euc whole n1 (n0 % n1) x1 y1 (if whole = true then x0 - ((n0 / n1 : Nat) : Int) * x1 else 0) (if whole = true then y0 - ((n0 / n1 : Nat) : Int) * y1 else 0)
termination_by n1
decreasing_by exact Nat.mod_lt _ (Nat.pos_of_ne_zero _h)
theorem euc_zero (whole : Bool) (n0 : Nat) (x0 y0 x1 y1 : Int) : euc whole n0 0 x0 y0 x1 y1 = (n0, x0, y0) := by rw [euc, dif_pos rfl]
theorem euc_step (whole : Bool) (n0 n1 : Nat) (x0 y0 x1 y1 : Int) (h : n1 ≠ 0) : euc whole n0 n1 x0 y0 x1 y1 =
    euc whole n1 (n0 % n1) x1 y1 (if whole = true then x0 - ((n0 / n1 : Nat) : Int) * x1 else 0) (if whole = true then y0 - ((n0 / n1 : Nat) : Int) * y1 else 0) := by rw [euc, dif_neg h]
def eucR (whole : Bool) (a b : Nat) : Nat × Int × Int := euc whole a b 1 0 0 1
theorem rawOf_zero : rawOf 0 = (false, []) := by unfold rawOf; rw [show (0 : Int).natAbs = 0 from rfl, limbs_zero]; rfl
theorem rawOf_len {n : Nat} : (rawOf (n : Int)).2.length = 0 ↔ n = 0 := by
  show (limbs (n : Int).natAbs).length = 0 ↔ n = 0
  rw [Int.natAbs_natCast, List.length_eq_zero_iff]
  exact limbs_eq_nil
structure GS where
  (n0 n1 : Nat) (x0 y0 x1 y1 : Int) (q0 q1 q2 q3 q4 q5 : Raw)
structure GSok (a b : Nat) (whole : Bool) (p : GS) : Prop where
  h0 : p.q0 = rawOf (p.n0 : Int)
  h1 : p.q1 = rawOf p.x0
  h2 : p.q2 = rawOf p.y0
  h3 : p.q3 = rawOf (p.n1 : Int)
  h4 : p.q4 = rawOf p.x1
  h5 : p.q5 = rawOf p.y1
  g : GRow a b whole p.n0 p.n1 p.x0 p.y0 p.x1 p.y1
  e : euc whole p.n0 p.n1 p.x0 p.y0 p.x1 p.y1 = eucR whole a b
/-- A row of three numbers. -/
abbrev cell6 (x y z : Raw) : List AC := [.b x.1, .st (magP x.2), .b y.1, .st (magP y.2), .b z.1, .st (magP z.2)]
set_option maxHeartbeats 1000000 in
set_option maxRecDepth 100000 in
theorem ct_run (a b : Int) (whole : Bool) (ha : lc a.natAbs ≤ 90) (hb : lc b.natAbs ≤ 90) :
    Ct Try.prog 55 [aZ a, aZ b, .val (aB whole)] (.val (.agg (cell6 (rawOf ((eucR whole a.natAbs b.natAbs).1 : Int)) (rawOf (eucR whole a.natAbs b.natAbs).2.1) (rawOf (eucR whole a.natAbs b.natAbs).2.2)))) := by
  have hla : lc a.natAbs ≤ 1099511627776 := by omega
  have hlb : lc b.natAbs ≤ 1099511627776 := by omega
  refine ct_of_wp [.cell 6 75] [(0, aZ a), (1, aZ b), (2, .val (aB whole))] 82 Try.func55 rfl rfl rfl rfl rfl rfl rfl rfl ?_
  intro G0 w0
  repeat first
    | refine Wp_seq ?_
    | refine Wp_region tm_mixed ?_
    | refine AW_move rfl rfl ?_
    | refine AW_assign rfl rfl ?_
    | refine AW_load rfl ty_num rfl rfl rfl rfl ?_
    | refine AW_load rfl ty_row rfl rfl rfl rfl ?_
    | refine AW_load rfl ty_rows rfl rfl rfl rfl ?_
    | refine AW_store ty_num rfl rfl rfl rfl rfl rfl rfl ?_
    | refine AW_store ty_row rfl rfl rfl rfl rfl rfl rfl ?_
    | refine AW_store ty_rows rfl rfl rfl rfl rfl rfl rfl ?_
    | refine AW_extract rfl rfl rfl ?_
    | refine AW_alloc rfl tz_num ?_
    | refine AW_alloc rfl tz_row ?_
    | refine AW_alloc rfl tz_rows ?_
    | refine AW_box rfl rfl (row := true) rfl (fun h => by cases h) rfl ?_
    | refine AW_not rfl rfl ?_
    | refine AW_build rfl tb_num rfl ?_
    | refine AW_build rfl tb_row rfl ?_
    | refine AW_build rfl tb_rows rfl ?_
    | refine AW_call rfl rfl (by first | exact ct_gsize _ (by assumption) | exact ct_limbOf 1 (by decide) (by decide) | exact ct_gzero _ | exact ct_Mul0 _ _ (by omega) (by omega) (by omega) | exact ct_Sub0 _ _ (by omega) (by assumption) (by assumption) | exact ct_TruncN _ _ (by assumption) (by assumption) (by assumption)) ?_
    | refine AW_ints rfl tu_nums ti_num ti_size ti_zero rfl rfl rfl (by first | exact .cons _ _ _ _ _ rfl (.cons _ _ _ _ _ rfl (.nil _)) | exact .cons _ _ _ _ _ rfl (.cons _ _ _ _ _ rfl (.cons _ _ _ _ _ rfl (.cons _ _ _ _ _ rfl (.nil _)))) | exact .cons _ _ _ _ _ rfl (.cons _ _ _ _ _ rfl (.cons _ _ _ _ _ rfl (.nil _))) | exact .cons _ _ _ _ _ rfl (.cons _ _ _ _ _ rfl (.cons _ _ _ _ _ rfl (.cons _ _ _ _ _ rfl (.cons _ _ _ _ _ rfl (.nil _)))))) ?_
    | refine AW_fieldAddr rfl tf_row0 rfl rfl ?_ | refine AW_fieldAddr rfl tf_row1 rfl rfl ?_ | refine AW_arrayAt rfl Try.underlying85 ts_row rfl rfl rfl rfl ?_ | refine AW_arrayAt rfl Try.underlying73 ts_num rfl rfl rfl rfl ?_
    | refine AW_pickT rfl rfl rfl ?_
    | refine AW_pickF rfl rfl rfl ?_
    | refine AW_skip rfl rfl rfl rfl ?_
    | refine AW_pickTg rfl rfl rfl rfl rfl rfl ?_
    | refine AW_pickFg rfl rfl rfl rfl rfl rfl ?_
    | refine AW_moveg rfl rfl rfl rfl rfl ?_
    | refine AW_notg rfl rfl rfl rfl rfl ?_
    | refine AW_eqg rfl rfl rfl rfl rfl rfl ?_
    | refine AW_eq rfl rfl rfl ?_
    | refine AW_loadg rfl rfl rfl rfl ty_num rfl rfl rfl rfl ?_
    | refine AW_loadg rfl rfl rfl rfl ty_row rfl rfl rfl rfl ?_
    | refine AW_loadg rfl rfl rfl rfl ty_rows rfl rfl rfl rfl ?_
    | refine AW_callg rfl rfl rfl rfl rfl (by first | exact ct_gsize _ (by assumption) | exact ct_limbOf 1 (by decide) (by decide) | exact ct_gzero _ | exact ct_Mul0 _ _ (by omega) (by omega) (by omega) | exact ct_Sub0 _ _ (by omega) (by assumption) (by assumption) | exact ct_TruncN _ _ (by assumption) (by assumption) (by assumption)) ?_
    | refine AW_nil (fun (h : false = true) => by cases h) ?_
    | refine AW_nil (fun (_ : true = true) => by kernel_rfl) ?_
    | refine Wp_block ?_
    | refine Wp_skip ?_
    | refine Wp_exit ?_
    | refine Wp_ret ?_
  refine Wp_loop (fun p : GS => ⟨[(7, .val (.one (.ptr 3 0))), (6, .val (.one (.ptr 2 0))), (2, .val (aB whole))],
    [(3, 85, [.b p.q0.1, .st (magP p.q0.2), .b p.q1.1, .st (magP p.q1.2), .b p.q2.1, .st (magP p.q2.2), .b p.q3.1, .st (magP p.q3.2), .b p.q4.1, .st (magP p.q4.2), .b p.q5.1, .st (magP p.q5.2)]),
     (2, 75, [.b false, .st (magP []), .b false, .st (magP []), .b false, .st (magP [])])], 4⟩)
    (GSok a.natAbs b.natAbs whole) (fun p => p.n1) ⟨a.natAbs, b.natAbs, 1, 0, 0, 1, rawOf (a.natAbs : Int), rawOf 1, (false, []), rawOf (b.natAbs : Int), (false, []), rawOf 1⟩
    ⟨rfl, rfl, rawOf_zero.symm, rfl, rawOf_zero.symm, rfl, GRow.start _ _ _, rfl⟩ (le_of ⟨rfl, rfl, rfl, trivial⟩ ⟨rfl, rfl, trivial⟩ rfl) ?_
  rintro ⟨n0, n1, x0, y0, x1, y1, q0, q1, q2, q3, q4, q5⟩ ⟨h0, h1, h2, h3, h4, h5, hg, he⟩
  dsimp only at h0 h1 h2 h3 h4 h5 hg he
  subst h0 h1 h2 h3 h4 h5
  obtain ⟨s0, s1, s2, s3, s4, s5⟩ := hg.small ha hb
  dsimp only
  repeat first
    | refine Wp_seq ?_
    | refine Wp_region tm_mixed ?_
    | refine AW_move rfl rfl ?_
    | refine AW_assign rfl rfl ?_
    | refine AW_load rfl ty_num rfl rfl rfl rfl ?_
    | refine AW_load rfl ty_row rfl rfl rfl rfl ?_
    | refine AW_load rfl ty_rows rfl rfl rfl rfl ?_
    | refine AW_store ty_num rfl rfl rfl rfl rfl rfl rfl ?_
    | refine AW_store ty_row rfl rfl rfl rfl rfl rfl rfl ?_
    | refine AW_store ty_rows rfl rfl rfl rfl rfl rfl rfl ?_
    | refine AW_extract rfl rfl rfl ?_
    | refine AW_alloc rfl tz_num ?_
    | refine AW_alloc rfl tz_row ?_
    | refine AW_alloc rfl tz_rows ?_
    | refine AW_box rfl rfl (row := true) rfl (fun h => by cases h) rfl ?_
    | refine AW_not rfl rfl ?_
    | refine AW_build rfl tb_num rfl ?_
    | refine AW_build rfl tb_row rfl ?_
    | refine AW_build rfl tb_rows rfl ?_
    | refine AW_call rfl rfl (by first | exact ct_gsize _ (by assumption) | exact ct_limbOf 1 (by decide) (by decide) | exact ct_gzero _ | exact ct_Mul0 _ _ (by omega) (by omega) (by omega) | exact ct_Sub0 _ _ (by omega) (by assumption) (by assumption) | exact ct_TruncN _ _ (by assumption) (by assumption) (by assumption)) ?_
    | refine AW_ints rfl tu_nums ti_num ti_size ti_zero rfl rfl rfl (by first | exact .cons _ _ _ _ _ rfl (.cons _ _ _ _ _ rfl (.nil _)) | exact .cons _ _ _ _ _ rfl (.cons _ _ _ _ _ rfl (.cons _ _ _ _ _ rfl (.cons _ _ _ _ _ rfl (.nil _)))) | exact .cons _ _ _ _ _ rfl (.cons _ _ _ _ _ rfl (.cons _ _ _ _ _ rfl (.nil _))) | exact .cons _ _ _ _ _ rfl (.cons _ _ _ _ _ rfl (.cons _ _ _ _ _ rfl (.cons _ _ _ _ _ rfl (.cons _ _ _ _ _ rfl (.nil _)))))) ?_
    | refine AW_fieldAddr rfl tf_row0 rfl rfl ?_ | refine AW_fieldAddr rfl tf_row1 rfl rfl ?_ | refine AW_arrayAt rfl Try.underlying85 ts_row rfl rfl rfl rfl ?_ | refine AW_arrayAt rfl Try.underlying73 ts_num rfl rfl rfl rfl ?_
    | refine AW_pickT rfl rfl rfl ?_
    | refine AW_pickF rfl rfl rfl ?_
    | refine AW_skip rfl rfl rfl rfl ?_
    | refine AW_pickTg rfl rfl rfl rfl rfl rfl ?_
    | refine AW_pickFg rfl rfl rfl rfl rfl rfl ?_
    | refine AW_moveg rfl rfl rfl rfl rfl ?_
    | refine AW_notg rfl rfl rfl rfl rfl ?_
    | refine AW_eqg rfl rfl rfl rfl rfl rfl ?_
    | refine AW_eq rfl rfl rfl ?_
    | refine AW_loadg rfl rfl rfl rfl ty_num rfl rfl rfl rfl ?_
    | refine AW_loadg rfl rfl rfl rfl ty_row rfl rfl rfl rfl ?_
    | refine AW_loadg rfl rfl rfl rfl ty_rows rfl rfl rfl rfl ?_
    | refine AW_callg rfl rfl rfl rfl rfl (by first | exact ct_gsize _ (by assumption) | exact ct_limbOf 1 (by decide) (by decide) | exact ct_gzero _ | exact ct_Mul0 _ _ (by omega) (by omega) (by omega) | exact ct_Sub0 _ _ (by omega) (by assumption) (by assumption) | exact ct_TruncN _ _ (by assumption) (by assumption) (by assumption)) ?_
    | refine AW_nil (fun (h : false = true) => by cases h) ?_
    | refine AW_nil (fun (_ : true = true) => by kernel_rfl) ?_
    | refine Wp_block ?_
    | refine Wp_skip ?_
    | refine Wp_exit ?_
    | refine Wp_ret ?_
  refine Wp_cond rfl (fun hc => ?_) (fun hc => ?_)
  · have hn : n1 ≠ 0 := fun e => by rw [decide_eq_true (rawOf_len.2 e)] at hc; cases hc
    repeat first
      | refine Wp_seq ?_
      | refine Wp_region tm_mixed ?_
      | refine AW_move rfl rfl ?_
      | refine AW_assign rfl rfl ?_
      | refine AW_load rfl ty_num rfl rfl rfl rfl ?_
      | refine AW_load rfl ty_row rfl rfl rfl rfl ?_
      | refine AW_load rfl ty_rows rfl rfl rfl rfl ?_
      | refine AW_store ty_num rfl rfl rfl rfl rfl rfl rfl ?_
      | refine AW_store ty_row rfl rfl rfl rfl rfl rfl rfl ?_
      | refine AW_store ty_rows rfl rfl rfl rfl rfl rfl rfl ?_
      | refine AW_extract rfl rfl rfl ?_
      | refine AW_alloc rfl tz_num ?_
      | refine AW_alloc rfl tz_row ?_
      | refine AW_alloc rfl tz_rows ?_
      | refine AW_box rfl rfl (row := true) rfl (fun h => by cases h) rfl ?_
      | refine AW_not rfl rfl ?_
      | refine AW_build rfl tb_num rfl ?_
      | refine AW_build rfl tb_row rfl ?_
      | refine AW_build rfl tb_rows rfl ?_
      | refine AW_call rfl rfl (by first | exact ct_gsize _ (by assumption) | exact ct_limbOf 1 (by decide) (by decide) | exact ct_gzero _ | exact ct_Mul0 _ _ (by omega) (by omega) (by omega) | exact ct_Sub0 _ _ (by omega) (by assumption) (by assumption) | exact ct_TruncN _ _ (by assumption) (by assumption) (by assumption)) ?_
      | refine AW_ints rfl tu_nums ti_num ti_size ti_zero rfl rfl rfl (by first | exact .cons _ _ _ _ _ rfl (.cons _ _ _ _ _ rfl (.nil _)) | exact .cons _ _ _ _ _ rfl (.cons _ _ _ _ _ rfl (.cons _ _ _ _ _ rfl (.cons _ _ _ _ _ rfl (.nil _)))) | exact .cons _ _ _ _ _ rfl (.cons _ _ _ _ _ rfl (.cons _ _ _ _ _ rfl (.nil _))) | exact .cons _ _ _ _ _ rfl (.cons _ _ _ _ _ rfl (.cons _ _ _ _ _ rfl (.cons _ _ _ _ _ rfl (.cons _ _ _ _ _ rfl (.nil _)))))) ?_
      | refine AW_fieldAddr rfl tf_row0 rfl rfl ?_ | refine AW_fieldAddr rfl tf_row1 rfl rfl ?_ | refine AW_arrayAt rfl Try.underlying85 ts_row rfl rfl rfl rfl ?_ | refine AW_arrayAt rfl Try.underlying73 ts_num rfl rfl rfl rfl ?_
      | refine AW_pickT rfl rfl rfl ?_
      | refine AW_pickF rfl rfl rfl ?_
      | refine AW_skip rfl rfl rfl rfl ?_
      | refine AW_pickTg rfl rfl rfl rfl rfl rfl ?_
      | refine AW_pickFg rfl rfl rfl rfl rfl rfl ?_
      | refine AW_moveg rfl rfl rfl rfl rfl ?_
      | refine AW_notg rfl rfl rfl rfl rfl ?_
      | refine AW_eqg rfl rfl rfl rfl rfl rfl ?_
      | refine AW_eq rfl rfl rfl ?_
      | refine AW_loadg rfl rfl rfl rfl ty_num rfl rfl rfl rfl ?_
      | refine AW_loadg rfl rfl rfl rfl ty_row rfl rfl rfl rfl ?_
      | refine AW_loadg rfl rfl rfl rfl ty_rows rfl rfl rfl rfl ?_
      | refine AW_callg rfl rfl rfl rfl rfl (by first | exact ct_gsize _ (by assumption) | exact ct_limbOf 1 (by decide) (by decide) | exact ct_gzero _ | exact ct_Mul0 _ _ (by omega) (by omega) (by omega) | exact ct_Sub0 _ _ (by omega) (by assumption) (by assumption) | exact ct_TruncN _ _ (by assumption) (by assumption) (by assumption)) ?_
      | refine AW_nil (fun (h : false = true) => by cases h) ?_
      | refine AW_nil (fun (_ : true = true) => by kernel_rfl) ?_
      | refine Wp_block ?_
      | refine Wp_skip ?_
      | refine Wp_exit ?_
      | refine Wp_ret ?_
    obtain ⟨nx, hnx⟩ : ∃ nx : Int, (if whole = true then x0 - ((n0 / n1 : Nat) : Int) * x1 else 0) = nx := ⟨_, rfl⟩
    obtain ⟨ny, hny⟩ : ∃ ny : Int, (if whole = true then y0 - ((n0 / n1 : Nat) : Int) * y1 else 0) = ny := ⟨_, rfl⟩
    have hg2 := hg.step hn
    rw [euc_step _ _ _ _ _ _ _ hn] at he
    rw [hnx, hny] at hg2 he
    have sq : lc ((n0 / n1 : Nat) : Int).natAbs ≤ 90 := by rw [Int.natAbs_natCast]; exact Nat.le_trans (lc_mono (Nat.div_le_self _ _)) s0
    obtain ⟨-, -, -, -, t4, t5⟩ := hg2.small ha hb
    have k1 : lc (((n0 / n1 : Nat) : Int) * x1).natAbs ≤ 4096 := by rw [Int.natAbs_mul]; have := lc_mul ((n0 / n1 : Nat) : Int).natAbs x1.natAbs; omega
    have k3 : lc (((n0 / n1 : Nat) : Int) * y1).natAbs ≤ 4096 := by rw [Int.natAbs_mul]; have := lc_mul ((n0 / n1 : Nat) : Int).natAbs y1.natAbs; omega
    refine Wp_loop (fun p : Nat × Raw × Raw => ⟨[(48, .val (aI (p.1 : Int))), (11, .val (.one (.ptr 6 0))), (9, .val (.one (.ptr 5 0))), (8, .val (.one (.ptr 4 0))), (7, .val (.one (.ptr 3 0))), (6, .val (.one (.ptr 2 0))), (2, .val (aB whole))],
      [(6, 75, [.b (rawOf ((n0 % n1 : Nat) : Int)).1, .st (magP (rawOf ((n0 % n1 : Nat) : Int)).2), .b p.2.1.1, .st (magP p.2.1.2), .b p.2.2.1, .st (magP p.2.2.2)]),
       (4, 24, [.b (rawOf ((n0 / n1 : Nat) : Int)).1, .st (magP (rawOf ((n0 / n1 : Nat) : Int)).2)]),
       (3, 85, [.b (rawOf (n0 : Int)).1, .st (magP (rawOf (n0 : Int)).2), .b (rawOf x0).1, .st (magP (rawOf x0).2), .b (rawOf y0).1, .st (magP (rawOf y0).2), .b (rawOf (n1 : Int)).1, .st (magP (rawOf (n1 : Int)).2), .b (rawOf x1).1, .st (magP (rawOf x1).2), .b (rawOf y1).1, .st (magP (rawOf y1).2)]),
       (2, 75, [.b false, .st (magP []), .b false, .st (magP []), .b false, .st (magP [])])], 7⟩)
      (fun p => p.1 ≤ 2 ∧ (1 ≤ p.1 → p.2.1 = rawOf nx) ∧ (2 ≤ p.1 → p.2.2 = rawOf ny) ∧ (p.1 = 0 → p.2.1 = (false, [])) ∧ (p.1 ≤ 1 → p.2.2 = (false, []))) (fun p => 2 - p.1) (0, (false, []), (false, []))
      ⟨by omega, by omega, by omega, fun _ => rfl, fun _ => rfl⟩ (le_of ⟨rfl, rfl, rfl, rfl, rfl, rfl, rfl, trivial⟩ ⟨rfl, rfl, rfl, rfl, trivial⟩ rfl) ?_
    rintro ⟨k, u, v⟩ ⟨hk, hu1, hv2, hu0, hv1⟩
    dsimp only at hk hu1 hv2 hu0 hv1 ⊢
    obtain rfl | rfl | rfl : k = 0 ∨ k = 1 ∨ k = 2 := by omega
    · obtain rfl := hu0 rfl
      obtain rfl := hv1 (by omega)
      have hx : nx = if whole = true then x0 - ((n0 / n1 : Nat) : Int) * x1 else 0 := hnx.symm
      repeat first
        | refine Wp_seq ?_
        | refine Wp_region tm_mixed ?_
        | refine AW_move rfl rfl ?_
        | refine AW_assign rfl rfl ?_
        | refine AW_load rfl ty_num rfl rfl rfl rfl ?_
        | refine AW_load rfl ty_row rfl rfl rfl rfl ?_
        | refine AW_load rfl ty_rows rfl rfl rfl rfl ?_
        | refine AW_store ty_num rfl rfl rfl rfl rfl rfl rfl ?_
        | refine AW_store ty_row rfl rfl rfl rfl rfl rfl rfl ?_
        | refine AW_store ty_rows rfl rfl rfl rfl rfl rfl rfl ?_
        | refine AW_extract rfl rfl rfl ?_
        | refine AW_alloc rfl tz_num ?_
        | refine AW_alloc rfl tz_row ?_
        | refine AW_alloc rfl tz_rows ?_
        | refine AW_box rfl rfl (row := true) rfl (fun h => by cases h) rfl ?_
        | refine AW_not rfl rfl ?_
        | refine AW_build rfl tb_num rfl ?_
        | refine AW_build rfl tb_row rfl ?_
        | refine AW_build rfl tb_rows rfl ?_
        | refine AW_call rfl rfl (by first | exact ct_gsize _ (by assumption) | exact ct_limbOf 1 (by decide) (by decide) | exact ct_gzero _ | exact ct_Mul0 _ _ (by omega) (by omega) (by omega) | exact ct_Sub0 _ _ (by omega) (by assumption) (by assumption) | exact ct_TruncN _ _ (by assumption) (by assumption) (by assumption)) ?_
        | refine AW_ints rfl tu_nums ti_num ti_size ti_zero rfl rfl rfl (by first | exact .cons _ _ _ _ _ rfl (.cons _ _ _ _ _ rfl (.nil _)) | exact .cons _ _ _ _ _ rfl (.cons _ _ _ _ _ rfl (.cons _ _ _ _ _ rfl (.cons _ _ _ _ _ rfl (.nil _)))) | exact .cons _ _ _ _ _ rfl (.cons _ _ _ _ _ rfl (.cons _ _ _ _ _ rfl (.nil _))) | exact .cons _ _ _ _ _ rfl (.cons _ _ _ _ _ rfl (.cons _ _ _ _ _ rfl (.cons _ _ _ _ _ rfl (.cons _ _ _ _ _ rfl (.nil _)))))) ?_
        | refine AW_fieldAddr rfl tf_row0 rfl rfl ?_ | refine AW_fieldAddr rfl tf_row1 rfl rfl ?_ | refine AW_arrayAt rfl Try.underlying85 ts_row rfl rfl rfl rfl ?_ | refine AW_arrayAt rfl Try.underlying73 ts_num rfl rfl rfl rfl ?_
        | refine AW_pickT rfl rfl rfl ?_
        | refine AW_pickF rfl rfl rfl ?_
        | refine AW_skip rfl rfl rfl rfl ?_
        | refine AW_pickTg rfl rfl rfl rfl rfl rfl ?_
        | refine AW_pickFg rfl rfl rfl rfl rfl rfl ?_
        | refine AW_moveg rfl rfl rfl rfl rfl ?_
        | refine AW_notg rfl rfl rfl rfl rfl ?_
        | refine AW_eqg rfl rfl rfl rfl rfl rfl ?_
        | refine AW_eq rfl rfl rfl ?_
        | refine AW_loadg rfl rfl rfl rfl ty_num rfl rfl rfl rfl ?_
        | refine AW_loadg rfl rfl rfl rfl ty_row rfl rfl rfl rfl ?_
        | refine AW_loadg rfl rfl rfl rfl ty_rows rfl rfl rfl rfl ?_
        | refine AW_callg rfl rfl rfl rfl rfl (by first | exact ct_gsize _ (by assumption) | exact ct_limbOf 1 (by decide) (by decide) | exact ct_gzero _ | exact ct_Mul0 _ _ (by omega) (by omega) (by omega) | exact ct_Sub0 _ _ (by omega) (by assumption) (by assumption) | exact ct_TruncN _ _ (by assumption) (by assumption) (by assumption)) ?_
        | refine AW_nil (fun (h : false = true) => by cases h) ?_
        | refine AW_nil (fun (_ : true = true) => by kernel_rfl) ?_
        | refine Wp_block ?_
        | refine Wp_skip ?_
        | refine Wp_exit ?_
        | refine Wp_ret ?_
      refine AW_quiet rfl (q_lt rfl rfl) ?_
      repeat first
        | refine Wp_seq ?_
        | refine Wp_region tm_mixed ?_
        | refine AW_move rfl rfl ?_
        | refine AW_assign rfl rfl ?_
        | refine AW_load rfl ty_num rfl rfl rfl rfl ?_
        | refine AW_load rfl ty_row rfl rfl rfl rfl ?_
        | refine AW_load rfl ty_rows rfl rfl rfl rfl ?_
        | refine AW_store ty_num rfl rfl rfl rfl rfl rfl rfl ?_
        | refine AW_store ty_row rfl rfl rfl rfl rfl rfl rfl ?_
        | refine AW_store ty_rows rfl rfl rfl rfl rfl rfl rfl ?_
        | refine AW_extract rfl rfl rfl ?_
        | refine AW_alloc rfl tz_num ?_
        | refine AW_alloc rfl tz_row ?_
        | refine AW_alloc rfl tz_rows ?_
        | refine AW_box rfl rfl (row := true) rfl (fun h => by cases h) rfl ?_
        | refine AW_not rfl rfl ?_
        | refine AW_build rfl tb_num rfl ?_
        | refine AW_build rfl tb_row rfl ?_
        | refine AW_build rfl tb_rows rfl ?_
        | refine AW_call rfl rfl (by first | exact ct_gsize _ (by assumption) | exact ct_limbOf 1 (by decide) (by decide) | exact ct_gzero _ | exact ct_Mul0 _ _ (by omega) (by omega) (by omega) | exact ct_Sub0 _ _ (by omega) (by assumption) (by assumption) | exact ct_TruncN _ _ (by assumption) (by assumption) (by assumption)) ?_
        | refine AW_ints rfl tu_nums ti_num ti_size ti_zero rfl rfl rfl (by first | exact .cons _ _ _ _ _ rfl (.cons _ _ _ _ _ rfl (.nil _)) | exact .cons _ _ _ _ _ rfl (.cons _ _ _ _ _ rfl (.cons _ _ _ _ _ rfl (.cons _ _ _ _ _ rfl (.nil _)))) | exact .cons _ _ _ _ _ rfl (.cons _ _ _ _ _ rfl (.cons _ _ _ _ _ rfl (.nil _))) | exact .cons _ _ _ _ _ rfl (.cons _ _ _ _ _ rfl (.cons _ _ _ _ _ rfl (.cons _ _ _ _ _ rfl (.cons _ _ _ _ _ rfl (.nil _)))))) ?_
        | refine AW_fieldAddr rfl tf_row0 rfl rfl ?_ | refine AW_fieldAddr rfl tf_row1 rfl rfl ?_ | refine AW_arrayAt rfl Try.underlying85 ts_row rfl rfl rfl rfl ?_ | refine AW_arrayAt rfl Try.underlying73 ts_num rfl rfl rfl rfl ?_
        | refine AW_pickT rfl rfl rfl ?_
        | refine AW_pickF rfl rfl rfl ?_
        | refine AW_skip rfl rfl rfl rfl ?_
        | refine AW_pickTg rfl rfl rfl rfl rfl rfl ?_
        | refine AW_pickFg rfl rfl rfl rfl rfl rfl ?_
        | refine AW_moveg rfl rfl rfl rfl rfl ?_
        | refine AW_notg rfl rfl rfl rfl rfl ?_
        | refine AW_eqg rfl rfl rfl rfl rfl rfl ?_
        | refine AW_eq rfl rfl rfl ?_
        | refine AW_loadg rfl rfl rfl rfl ty_num rfl rfl rfl rfl ?_
        | refine AW_loadg rfl rfl rfl rfl ty_row rfl rfl rfl rfl ?_
        | refine AW_loadg rfl rfl rfl rfl ty_rows rfl rfl rfl rfl ?_
        | refine AW_callg rfl rfl rfl rfl rfl (by first | exact ct_gsize _ (by assumption) | exact ct_limbOf 1 (by decide) (by decide) | exact ct_gzero _ | exact ct_Mul0 _ _ (by omega) (by omega) (by omega) | exact ct_Sub0 _ _ (by omega) (by assumption) (by assumption) | exact ct_TruncN _ _ (by assumption) (by assumption) (by assumption)) ?_
        | refine AW_nil (fun (h : false = true) => by cases h) ?_
        | refine AW_nil (fun (_ : true = true) => by kernel_rfl) ?_
        | refine Wp_block ?_
        | refine Wp_skip ?_
        | refine Wp_exit ?_
        | refine Wp_ret ?_
      refine Wp_condT rfl ?_
      repeat first
        | refine Wp_seq ?_
        | refine Wp_region tm_mixed ?_
        | refine AW_move rfl rfl ?_
        | refine AW_assign rfl rfl ?_
        | refine AW_load rfl ty_num rfl rfl rfl rfl ?_
        | refine AW_load rfl ty_row rfl rfl rfl rfl ?_
        | refine AW_load rfl ty_rows rfl rfl rfl rfl ?_
        | refine AW_store ty_num rfl rfl rfl rfl rfl rfl rfl ?_
        | refine AW_store ty_row rfl rfl rfl rfl rfl rfl rfl ?_
        | refine AW_store ty_rows rfl rfl rfl rfl rfl rfl rfl ?_
        | refine AW_extract rfl rfl rfl ?_
        | refine AW_alloc rfl tz_num ?_
        | refine AW_alloc rfl tz_row ?_
        | refine AW_alloc rfl tz_rows ?_
        | refine AW_box rfl rfl (row := true) rfl (fun h => by cases h) rfl ?_
        | refine AW_not rfl rfl ?_
        | refine AW_build rfl tb_num rfl ?_
        | refine AW_build rfl tb_row rfl ?_
        | refine AW_build rfl tb_rows rfl ?_
        | refine AW_call rfl rfl (by first | exact ct_gsize _ (by assumption) | exact ct_limbOf 1 (by decide) (by decide) | exact ct_gzero _ | exact ct_Mul0 _ _ (by omega) (by omega) (by omega) | exact ct_Sub0 _ _ (by omega) (by assumption) (by assumption) | exact ct_TruncN _ _ (by assumption) (by assumption) (by assumption)) ?_
        | refine AW_ints rfl tu_nums ti_num ti_size ti_zero rfl rfl rfl (by first | exact .cons _ _ _ _ _ rfl (.cons _ _ _ _ _ rfl (.nil _)) | exact .cons _ _ _ _ _ rfl (.cons _ _ _ _ _ rfl (.cons _ _ _ _ _ rfl (.cons _ _ _ _ _ rfl (.nil _)))) | exact .cons _ _ _ _ _ rfl (.cons _ _ _ _ _ rfl (.cons _ _ _ _ _ rfl (.nil _))) | exact .cons _ _ _ _ _ rfl (.cons _ _ _ _ _ rfl (.cons _ _ _ _ _ rfl (.cons _ _ _ _ _ rfl (.cons _ _ _ _ _ rfl (.nil _)))))) ?_
        | refine AW_fieldAddr rfl tf_row0 rfl rfl ?_ | refine AW_fieldAddr rfl tf_row1 rfl rfl ?_ | refine AW_arrayAt rfl Try.underlying85 ts_row rfl rfl rfl rfl ?_ | refine AW_arrayAt rfl Try.underlying73 ts_num rfl rfl rfl rfl ?_
        | refine AW_pickT rfl rfl rfl ?_
        | refine AW_pickF rfl rfl rfl ?_
        | refine AW_skip rfl rfl rfl rfl ?_
        | refine AW_pickTg rfl rfl rfl rfl rfl rfl ?_
        | refine AW_pickFg rfl rfl rfl rfl rfl rfl ?_
        | refine AW_moveg rfl rfl rfl rfl rfl ?_
        | refine AW_notg rfl rfl rfl rfl rfl ?_
        | refine AW_eqg rfl rfl rfl rfl rfl rfl ?_
        | refine AW_eq rfl rfl rfl ?_
        | refine AW_loadg rfl rfl rfl rfl ty_num rfl rfl rfl rfl ?_
        | refine AW_loadg rfl rfl rfl rfl ty_row rfl rfl rfl rfl ?_
        | refine AW_loadg rfl rfl rfl rfl ty_rows rfl rfl rfl rfl ?_
        | refine AW_callg rfl rfl rfl rfl rfl (by first | exact ct_gsize _ (by assumption) | exact ct_limbOf 1 (by decide) (by decide) | exact ct_gzero _ | exact ct_Mul0 _ _ (by omega) (by omega) (by omega) | exact ct_Sub0 _ _ (by omega) (by assumption) (by assumption) | exact ct_TruncN _ _ (by assumption) (by assumption) (by assumption)) ?_
        | refine AW_nil (fun (h : false = true) => by cases h) ?_
        | refine AW_nil (fun (_ : true = true) => by kernel_rfl) ?_
        | refine Wp_block ?_
        | refine Wp_skip ?_
        | refine Wp_exit ?_
        | refine Wp_ret ?_
      refine Wp_cond rfl (fun hw => ?_) (fun hw => ?_)
      · subst hw
        rw [if_pos rfl] at hx
        have k2 : lc (x0 - ((n0 / n1 : Nat) : Int) * x1).natAbs ≤ 4096 := by rw [← hx]; exact Nat.le_trans t4 (by decide)
        repeat first
          | refine Wp_seq ?_
          | refine Wp_region tm_mixed ?_
          | refine AW_move rfl rfl ?_
          | refine AW_assign rfl rfl ?_
          | refine AW_load rfl ty_num rfl rfl rfl rfl ?_
          | refine AW_load rfl ty_row rfl rfl rfl rfl ?_
          | refine AW_load rfl ty_rows rfl rfl rfl rfl ?_
          | refine AW_store ty_num rfl rfl rfl rfl rfl rfl rfl ?_
          | refine AW_store ty_row rfl rfl rfl rfl rfl rfl rfl ?_
          | refine AW_store ty_rows rfl rfl rfl rfl rfl rfl rfl ?_
          | refine AW_extract rfl rfl rfl ?_
          | refine AW_alloc rfl tz_num ?_
          | refine AW_alloc rfl tz_row ?_
          | refine AW_alloc rfl tz_rows ?_
          | refine AW_box rfl rfl (row := true) rfl (fun h => by cases h) rfl ?_
          | refine AW_not rfl rfl ?_
          | refine AW_build rfl tb_num rfl ?_
          | refine AW_build rfl tb_row rfl ?_
          | refine AW_build rfl tb_rows rfl ?_
          | refine AW_call rfl rfl (by first | exact ct_gsize _ (by assumption) | exact ct_limbOf 1 (by decide) (by decide) | exact ct_gzero _ | exact ct_Mul0 _ _ (by omega) (by omega) (by omega) | exact ct_Sub0 _ _ (by omega) (by assumption) (by assumption) | exact ct_TruncN _ _ (by assumption) (by assumption) (by assumption)) ?_
          | refine AW_ints rfl tu_nums ti_num ti_size ti_zero rfl rfl rfl (by first | exact .cons _ _ _ _ _ rfl (.cons _ _ _ _ _ rfl (.nil _)) | exact .cons _ _ _ _ _ rfl (.cons _ _ _ _ _ rfl (.cons _ _ _ _ _ rfl (.cons _ _ _ _ _ rfl (.nil _)))) | exact .cons _ _ _ _ _ rfl (.cons _ _ _ _ _ rfl (.cons _ _ _ _ _ rfl (.nil _))) | exact .cons _ _ _ _ _ rfl (.cons _ _ _ _ _ rfl (.cons _ _ _ _ _ rfl (.cons _ _ _ _ _ rfl (.cons _ _ _ _ _ rfl (.nil _)))))) ?_
          | refine AW_fieldAddr rfl tf_row0 rfl rfl ?_ | refine AW_fieldAddr rfl tf_row1 rfl rfl ?_ | refine AW_arrayAt rfl Try.underlying85 ts_row rfl rfl rfl rfl ?_ | refine AW_arrayAt rfl Try.underlying73 ts_num rfl rfl rfl rfl ?_
          | refine AW_pickT rfl rfl rfl ?_
          | refine AW_pickF rfl rfl rfl ?_
          | refine AW_skip rfl rfl rfl rfl ?_
          | refine AW_pickTg rfl rfl rfl rfl rfl rfl ?_
          | refine AW_pickFg rfl rfl rfl rfl rfl rfl ?_
          | refine AW_moveg rfl rfl rfl rfl rfl ?_
          | refine AW_notg rfl rfl rfl rfl rfl ?_
          | refine AW_eqg rfl rfl rfl rfl rfl rfl ?_
          | refine AW_eq rfl rfl rfl ?_
          | refine AW_loadg rfl rfl rfl rfl ty_num rfl rfl rfl rfl ?_
          | refine AW_loadg rfl rfl rfl rfl ty_row rfl rfl rfl rfl ?_
          | refine AW_loadg rfl rfl rfl rfl ty_rows rfl rfl rfl rfl ?_
          | refine AW_callg rfl rfl rfl rfl rfl (by first | exact ct_gsize _ (by assumption) | exact ct_limbOf 1 (by decide) (by decide) | exact ct_gzero _ | exact ct_Mul0 _ _ (by omega) (by omega) (by omega) | exact ct_Sub0 _ _ (by omega) (by assumption) (by assumption) | exact ct_TruncN _ _ (by assumption) (by assumption) (by assumption)) ?_
          | refine AW_nil (fun (h : false = true) => by cases h) ?_
          | refine AW_nil (fun (_ : true = true) => by kernel_rfl) ?_
          | refine Wp_block ?_
          | refine Wp_skip ?_
          | refine Wp_exit ?_
          | refine Wp_ret ?_
        refine AW_quiet rfl (q_add rfl rfl) ?_
        repeat first
          | refine Wp_seq ?_
          | refine Wp_region tm_mixed ?_
          | refine AW_move rfl rfl ?_
          | refine AW_assign rfl rfl ?_
          | refine AW_load rfl ty_num rfl rfl rfl rfl ?_
          | refine AW_load rfl ty_row rfl rfl rfl rfl ?_
          | refine AW_load rfl ty_rows rfl rfl rfl rfl ?_
          | refine AW_store ty_num rfl rfl rfl rfl rfl rfl rfl ?_
          | refine AW_store ty_row rfl rfl rfl rfl rfl rfl rfl ?_
          | refine AW_store ty_rows rfl rfl rfl rfl rfl rfl rfl ?_
          | refine AW_extract rfl rfl rfl ?_
          | refine AW_alloc rfl tz_num ?_
          | refine AW_alloc rfl tz_row ?_
          | refine AW_alloc rfl tz_rows ?_
          | refine AW_box rfl rfl (row := true) rfl (fun h => by cases h) rfl ?_
          | refine AW_not rfl rfl ?_
          | refine AW_build rfl tb_num rfl ?_
          | refine AW_build rfl tb_row rfl ?_
          | refine AW_build rfl tb_rows rfl ?_
          | refine AW_call rfl rfl (by first | exact ct_gsize _ (by assumption) | exact ct_limbOf 1 (by decide) (by decide) | exact ct_gzero _ | exact ct_Mul0 _ _ (by omega) (by omega) (by omega) | exact ct_Sub0 _ _ (by omega) (by assumption) (by assumption) | exact ct_TruncN _ _ (by assumption) (by assumption) (by assumption)) ?_
          | refine AW_ints rfl tu_nums ti_num ti_size ti_zero rfl rfl rfl (by first | exact .cons _ _ _ _ _ rfl (.cons _ _ _ _ _ rfl (.nil _)) | exact .cons _ _ _ _ _ rfl (.cons _ _ _ _ _ rfl (.cons _ _ _ _ _ rfl (.cons _ _ _ _ _ rfl (.nil _)))) | exact .cons _ _ _ _ _ rfl (.cons _ _ _ _ _ rfl (.cons _ _ _ _ _ rfl (.nil _))) | exact .cons _ _ _ _ _ rfl (.cons _ _ _ _ _ rfl (.cons _ _ _ _ _ rfl (.cons _ _ _ _ _ rfl (.cons _ _ _ _ _ rfl (.nil _)))))) ?_
          | refine AW_fieldAddr rfl tf_row0 rfl rfl ?_ | refine AW_fieldAddr rfl tf_row1 rfl rfl ?_ | refine AW_arrayAt rfl Try.underlying85 ts_row rfl rfl rfl rfl ?_ | refine AW_arrayAt rfl Try.underlying73 ts_num rfl rfl rfl rfl ?_
          | refine AW_pickT rfl rfl rfl ?_
          | refine AW_pickF rfl rfl rfl ?_
          | refine AW_skip rfl rfl rfl rfl ?_
          | refine AW_pickTg rfl rfl rfl rfl rfl rfl ?_
          | refine AW_pickFg rfl rfl rfl rfl rfl rfl ?_
          | refine AW_moveg rfl rfl rfl rfl rfl ?_
          | refine AW_notg rfl rfl rfl rfl rfl ?_
          | refine AW_eqg rfl rfl rfl rfl rfl rfl ?_
          | refine AW_eq rfl rfl rfl ?_
          | refine AW_loadg rfl rfl rfl rfl ty_num rfl rfl rfl rfl ?_
          | refine AW_loadg rfl rfl rfl rfl ty_row rfl rfl rfl rfl ?_
          | refine AW_loadg rfl rfl rfl rfl ty_rows rfl rfl rfl rfl ?_
          | refine AW_callg rfl rfl rfl rfl rfl (by first | exact ct_gsize _ (by assumption) | exact ct_limbOf 1 (by decide) (by decide) | exact ct_gzero _ | exact ct_Mul0 _ _ (by omega) (by omega) (by omega) | exact ct_Sub0 _ _ (by omega) (by assumption) (by assumption) | exact ct_TruncN _ _ (by assumption) (by assumption) (by assumption)) ?_
          | refine AW_nil (fun (h : false = true) => by cases h) ?_
          | refine AW_nil (fun (_ : true = true) => by kernel_rfl) ?_
          | refine Wp_block ?_
          | refine Wp_skip ?_
          | refine Wp_exit ?_
          | refine Wp_ret ?_
        exact ⟨(1, rawOf nx, (false, [])), ⟨by omega, fun _ => rfl, by omega, by omega, fun _ => rfl⟩, le_of ⟨rfl, rfl, rfl, rfl, rfl, rfl, rfl, trivial⟩ ⟨by rw [hx]; rfl, rfl, rfl, rfl, trivial⟩ rfl, by omega⟩
      · subst hw
        rw [if_neg (by decide)] at hx
        subst hx
        repeat first
          | refine Wp_seq ?_
          | refine Wp_region tm_mixed ?_
          | refine AW_move rfl rfl ?_
          | refine AW_assign rfl rfl ?_
          | refine AW_load rfl ty_num rfl rfl rfl rfl ?_
          | refine AW_load rfl ty_row rfl rfl rfl rfl ?_
          | refine AW_load rfl ty_rows rfl rfl rfl rfl ?_
          | refine AW_store ty_num rfl rfl rfl rfl rfl rfl rfl ?_
          | refine AW_store ty_row rfl rfl rfl rfl rfl rfl rfl ?_
          | refine AW_store ty_rows rfl rfl rfl rfl rfl rfl rfl ?_
          | refine AW_extract rfl rfl rfl ?_
          | refine AW_alloc rfl tz_num ?_
          | refine AW_alloc rfl tz_row ?_
          | refine AW_alloc rfl tz_rows ?_
          | refine AW_box rfl rfl (row := true) rfl (fun h => by cases h) rfl ?_
          | refine AW_not rfl rfl ?_
          | refine AW_build rfl tb_num rfl ?_
          | refine AW_build rfl tb_row rfl ?_
          | refine AW_build rfl tb_rows rfl ?_
          | refine AW_call rfl rfl (by first | exact ct_gsize _ (by assumption) | exact ct_limbOf 1 (by decide) (by decide) | exact ct_gzero _ | exact ct_Mul0 _ _ (by omega) (by omega) (by omega) | exact ct_Sub0 _ _ (by omega) (by assumption) (by assumption) | exact ct_TruncN _ _ (by assumption) (by assumption) (by assumption)) ?_
          | refine AW_ints rfl tu_nums ti_num ti_size ti_zero rfl rfl rfl (by first | exact .cons _ _ _ _ _ rfl (.cons _ _ _ _ _ rfl (.nil _)) | exact .cons _ _ _ _ _ rfl (.cons _ _ _ _ _ rfl (.cons _ _ _ _ _ rfl (.cons _ _ _ _ _ rfl (.nil _)))) | exact .cons _ _ _ _ _ rfl (.cons _ _ _ _ _ rfl (.cons _ _ _ _ _ rfl (.nil _))) | exact .cons _ _ _ _ _ rfl (.cons _ _ _ _ _ rfl (.cons _ _ _ _ _ rfl (.cons _ _ _ _ _ rfl (.cons _ _ _ _ _ rfl (.nil _)))))) ?_
          | refine AW_fieldAddr rfl tf_row0 rfl rfl ?_ | refine AW_fieldAddr rfl tf_row1 rfl rfl ?_ | refine AW_arrayAt rfl Try.underlying85 ts_row rfl rfl rfl rfl ?_ | refine AW_arrayAt rfl Try.underlying73 ts_num rfl rfl rfl rfl ?_
          | refine AW_pickT rfl rfl rfl ?_
          | refine AW_pickF rfl rfl rfl ?_
          | refine AW_skip rfl rfl rfl rfl ?_
          | refine AW_pickTg rfl rfl rfl rfl rfl rfl ?_
          | refine AW_pickFg rfl rfl rfl rfl rfl rfl ?_
          | refine AW_moveg rfl rfl rfl rfl rfl ?_
          | refine AW_notg rfl rfl rfl rfl rfl ?_
          | refine AW_eqg rfl rfl rfl rfl rfl rfl ?_
          | refine AW_eq rfl rfl rfl ?_
          | refine AW_loadg rfl rfl rfl rfl ty_num rfl rfl rfl rfl ?_
          | refine AW_loadg rfl rfl rfl rfl ty_row rfl rfl rfl rfl ?_
          | refine AW_loadg rfl rfl rfl rfl ty_rows rfl rfl rfl rfl ?_
          | refine AW_callg rfl rfl rfl rfl rfl (by first | exact ct_gsize _ (by assumption) | exact ct_limbOf 1 (by decide) (by decide) | exact ct_gzero _ | exact ct_Mul0 _ _ (by omega) (by omega) (by omega) | exact ct_Sub0 _ _ (by omega) (by assumption) (by assumption) | exact ct_TruncN _ _ (by assumption) (by assumption) (by assumption)) ?_
          | refine AW_nil (fun (h : false = true) => by cases h) ?_
          | refine AW_nil (fun (_ : true = true) => by kernel_rfl) ?_
          | refine Wp_block ?_
          | refine Wp_skip ?_
          | refine Wp_exit ?_
          | refine Wp_ret ?_
        refine AW_quiet rfl (q_add rfl rfl) ?_
        repeat first
          | refine Wp_seq ?_
          | refine Wp_region tm_mixed ?_
          | refine AW_move rfl rfl ?_
          | refine AW_assign rfl rfl ?_
          | refine AW_load rfl ty_num rfl rfl rfl rfl ?_
          | refine AW_load rfl ty_row rfl rfl rfl rfl ?_
          | refine AW_load rfl ty_rows rfl rfl rfl rfl ?_
          | refine AW_store ty_num rfl rfl rfl rfl rfl rfl rfl ?_
          | refine AW_store ty_row rfl rfl rfl rfl rfl rfl rfl ?_
          | refine AW_store ty_rows rfl rfl rfl rfl rfl rfl rfl ?_
          | refine AW_extract rfl rfl rfl ?_
          | refine AW_alloc rfl tz_num ?_
          | refine AW_alloc rfl tz_row ?_
          | refine AW_alloc rfl tz_rows ?_
          | refine AW_box rfl rfl (row := true) rfl (fun h => by cases h) rfl ?_
          | refine AW_not rfl rfl ?_
          | refine AW_build rfl tb_num rfl ?_
          | refine AW_build rfl tb_row rfl ?_
          | refine AW_build rfl tb_rows rfl ?_
          | refine AW_call rfl rfl (by first | exact ct_gsize _ (by assumption) | exact ct_limbOf 1 (by decide) (by decide) | exact ct_gzero _ | exact ct_Mul0 _ _ (by omega) (by omega) (by omega) | exact ct_Sub0 _ _ (by omega) (by assumption) (by assumption) | exact ct_TruncN _ _ (by assumption) (by assumption) (by assumption)) ?_
          | refine AW_ints rfl tu_nums ti_num ti_size ti_zero rfl rfl rfl (by first | exact .cons _ _ _ _ _ rfl (.cons _ _ _ _ _ rfl (.nil _)) | exact .cons _ _ _ _ _ rfl (.cons _ _ _ _ _ rfl (.cons _ _ _ _ _ rfl (.cons _ _ _ _ _ rfl (.nil _)))) | exact .cons _ _ _ _ _ rfl (.cons _ _ _ _ _ rfl (.cons _ _ _ _ _ rfl (.nil _))) | exact .cons _ _ _ _ _ rfl (.cons _ _ _ _ _ rfl (.cons _ _ _ _ _ rfl (.cons _ _ _ _ _ rfl (.cons _ _ _ _ _ rfl (.nil _)))))) ?_
          | refine AW_fieldAddr rfl tf_row0 rfl rfl ?_ | refine AW_fieldAddr rfl tf_row1 rfl rfl ?_ | refine AW_arrayAt rfl Try.underlying85 ts_row rfl rfl rfl rfl ?_ | refine AW_arrayAt rfl Try.underlying73 ts_num rfl rfl rfl rfl ?_
          | refine AW_pickT rfl rfl rfl ?_
          | refine AW_pickF rfl rfl rfl ?_
          | refine AW_skip rfl rfl rfl rfl ?_
          | refine AW_pickTg rfl rfl rfl rfl rfl rfl ?_
          | refine AW_pickFg rfl rfl rfl rfl rfl rfl ?_
          | refine AW_moveg rfl rfl rfl rfl rfl ?_
          | refine AW_notg rfl rfl rfl rfl rfl ?_
          | refine AW_eqg rfl rfl rfl rfl rfl rfl ?_
          | refine AW_eq rfl rfl rfl ?_
          | refine AW_loadg rfl rfl rfl rfl ty_num rfl rfl rfl rfl ?_
          | refine AW_loadg rfl rfl rfl rfl ty_row rfl rfl rfl rfl ?_
          | refine AW_loadg rfl rfl rfl rfl ty_rows rfl rfl rfl rfl ?_
          | refine AW_callg rfl rfl rfl rfl rfl (by first | exact ct_gsize _ (by assumption) | exact ct_limbOf 1 (by decide) (by decide) | exact ct_gzero _ | exact ct_Mul0 _ _ (by omega) (by omega) (by omega) | exact ct_Sub0 _ _ (by omega) (by assumption) (by assumption) | exact ct_TruncN _ _ (by assumption) (by assumption) (by assumption)) ?_
          | refine AW_nil (fun (h : false = true) => by cases h) ?_
          | refine AW_nil (fun (_ : true = true) => by kernel_rfl) ?_
          | refine Wp_block ?_
          | refine Wp_skip ?_
          | refine Wp_exit ?_
          | refine Wp_ret ?_
        exact ⟨(1, (false, []), (false, [])), ⟨by omega, fun _ => rawOf_zero.symm, by omega, by omega, fun _ => rfl⟩, le_of ⟨rfl, rfl, rfl, rfl, rfl, rfl, rfl, trivial⟩ ⟨rfl, rfl, rfl, rfl, trivial⟩ rfl, by omega⟩
    · obtain rfl := hu1 (by omega)
      obtain rfl := hv1 (by omega)
      have hx : ny = if whole = true then y0 - ((n0 / n1 : Nat) : Int) * y1 else 0 := hny.symm
      repeat first
        | refine Wp_seq ?_
        | refine Wp_region tm_mixed ?_
        | refine AW_move rfl rfl ?_
        | refine AW_assign rfl rfl ?_
        | refine AW_load rfl ty_num rfl rfl rfl rfl ?_
        | refine AW_load rfl ty_row rfl rfl rfl rfl ?_
        | refine AW_load rfl ty_rows rfl rfl rfl rfl ?_
        | refine AW_store ty_num rfl rfl rfl rfl rfl rfl rfl ?_
        | refine AW_store ty_row rfl rfl rfl rfl rfl rfl rfl ?_
        | refine AW_store ty_rows rfl rfl rfl rfl rfl rfl rfl ?_
        | refine AW_extract rfl rfl rfl ?_
        | refine AW_alloc rfl tz_num ?_
        | refine AW_alloc rfl tz_row ?_
        | refine AW_alloc rfl tz_rows ?_
        | refine AW_box rfl rfl (row := true) rfl (fun h => by cases h) rfl ?_
        | refine AW_not rfl rfl ?_
        | refine AW_build rfl tb_num rfl ?_
        | refine AW_build rfl tb_row rfl ?_
        | refine AW_build rfl tb_rows rfl ?_
        | refine AW_call rfl rfl (by first | exact ct_gsize _ (by assumption) | exact ct_limbOf 1 (by decide) (by decide) | exact ct_gzero _ | exact ct_Mul0 _ _ (by omega) (by omega) (by omega) | exact ct_Sub0 _ _ (by omega) (by assumption) (by assumption) | exact ct_TruncN _ _ (by assumption) (by assumption) (by assumption)) ?_
        | refine AW_ints rfl tu_nums ti_num ti_size ti_zero rfl rfl rfl (by first | exact .cons _ _ _ _ _ rfl (.cons _ _ _ _ _ rfl (.nil _)) | exact .cons _ _ _ _ _ rfl (.cons _ _ _ _ _ rfl (.cons _ _ _ _ _ rfl (.cons _ _ _ _ _ rfl (.nil _)))) | exact .cons _ _ _ _ _ rfl (.cons _ _ _ _ _ rfl (.cons _ _ _ _ _ rfl (.nil _))) | exact .cons _ _ _ _ _ rfl (.cons _ _ _ _ _ rfl (.cons _ _ _ _ _ rfl (.cons _ _ _ _ _ rfl (.cons _ _ _ _ _ rfl (.nil _)))))) ?_
        | refine AW_fieldAddr rfl tf_row0 rfl rfl ?_ | refine AW_fieldAddr rfl tf_row1 rfl rfl ?_ | refine AW_arrayAt rfl Try.underlying85 ts_row rfl rfl rfl rfl ?_ | refine AW_arrayAt rfl Try.underlying73 ts_num rfl rfl rfl rfl ?_
        | refine AW_pickT rfl rfl rfl ?_
        | refine AW_pickF rfl rfl rfl ?_
        | refine AW_skip rfl rfl rfl rfl ?_
        | refine AW_pickTg rfl rfl rfl rfl rfl rfl ?_
        | refine AW_pickFg rfl rfl rfl rfl rfl rfl ?_
        | refine AW_moveg rfl rfl rfl rfl rfl ?_
        | refine AW_notg rfl rfl rfl rfl rfl ?_
        | refine AW_eqg rfl rfl rfl rfl rfl rfl ?_
        | refine AW_eq rfl rfl rfl ?_
        | refine AW_loadg rfl rfl rfl rfl ty_num rfl rfl rfl rfl ?_
        | refine AW_loadg rfl rfl rfl rfl ty_row rfl rfl rfl rfl ?_
        | refine AW_loadg rfl rfl rfl rfl ty_rows rfl rfl rfl rfl ?_
        | refine AW_callg rfl rfl rfl rfl rfl (by first | exact ct_gsize _ (by assumption) | exact ct_limbOf 1 (by decide) (by decide) | exact ct_gzero _ | exact ct_Mul0 _ _ (by omega) (by omega) (by omega) | exact ct_Sub0 _ _ (by omega) (by assumption) (by assumption) | exact ct_TruncN _ _ (by assumption) (by assumption) (by assumption)) ?_
        | refine AW_nil (fun (h : false = true) => by cases h) ?_
        | refine AW_nil (fun (_ : true = true) => by kernel_rfl) ?_
        | refine Wp_block ?_
        | refine Wp_skip ?_
        | refine Wp_exit ?_
        | refine Wp_ret ?_
      refine AW_quiet rfl (q_lt rfl rfl) ?_
      repeat first
        | refine Wp_seq ?_
        | refine Wp_region tm_mixed ?_
        | refine AW_move rfl rfl ?_
        | refine AW_assign rfl rfl ?_
        | refine AW_load rfl ty_num rfl rfl rfl rfl ?_
        | refine AW_load rfl ty_row rfl rfl rfl rfl ?_
        | refine AW_load rfl ty_rows rfl rfl rfl rfl ?_
        | refine AW_store ty_num rfl rfl rfl rfl rfl rfl rfl ?_
        | refine AW_store ty_row rfl rfl rfl rfl rfl rfl rfl ?_
        | refine AW_store ty_rows rfl rfl rfl rfl rfl rfl rfl ?_
        | refine AW_extract rfl rfl rfl ?_
        | refine AW_alloc rfl tz_num ?_
        | refine AW_alloc rfl tz_row ?_
        | refine AW_alloc rfl tz_rows ?_
        | refine AW_box rfl rfl (row := true) rfl (fun h => by cases h) rfl ?_
        | refine AW_not rfl rfl ?_
        | refine AW_build rfl tb_num rfl ?_
        | refine AW_build rfl tb_row rfl ?_
        | refine AW_build rfl tb_rows rfl ?_
        | refine AW_call rfl rfl (by first | exact ct_gsize _ (by assumption) | exact ct_limbOf 1 (by decide) (by decide) | exact ct_gzero _ | exact ct_Mul0 _ _ (by omega) (by omega) (by omega) | exact ct_Sub0 _ _ (by omega) (by assumption) (by assumption) | exact ct_TruncN _ _ (by assumption) (by assumption) (by assumption)) ?_
        | refine AW_ints rfl tu_nums ti_num ti_size ti_zero rfl rfl rfl (by first | exact .cons _ _ _ _ _ rfl (.cons _ _ _ _ _ rfl (.nil _)) | exact .cons _ _ _ _ _ rfl (.cons _ _ _ _ _ rfl (.cons _ _ _ _ _ rfl (.cons _ _ _ _ _ rfl (.nil _)))) | exact .cons _ _ _ _ _ rfl (.cons _ _ _ _ _ rfl (.cons _ _ _ _ _ rfl (.nil _))) | exact .cons _ _ _ _ _ rfl (.cons _ _ _ _ _ rfl (.cons _ _ _ _ _ rfl (.cons _ _ _ _ _ rfl (.cons _ _ _ _ _ rfl (.nil _)))))) ?_
        | refine AW_fieldAddr rfl tf_row0 rfl rfl ?_ | refine AW_fieldAddr rfl tf_row1 rfl rfl ?_ | refine AW_arrayAt rfl Try.underlying85 ts_row rfl rfl rfl rfl ?_ | refine AW_arrayAt rfl Try.underlying73 ts_num rfl rfl rfl rfl ?_
        | refine AW_pickT rfl rfl rfl ?_
        | refine AW_pickF rfl rfl rfl ?_
        | refine AW_skip rfl rfl rfl rfl ?_
        | refine AW_pickTg rfl rfl rfl rfl rfl rfl ?_
        | refine AW_pickFg rfl rfl rfl rfl rfl rfl ?_
        | refine AW_moveg rfl rfl rfl rfl rfl ?_
        | refine AW_notg rfl rfl rfl rfl rfl ?_
        | refine AW_eqg rfl rfl rfl rfl rfl rfl ?_
        | refine AW_eq rfl rfl rfl ?_
        | refine AW_loadg rfl rfl rfl rfl ty_num rfl rfl rfl rfl ?_
        | refine AW_loadg rfl rfl rfl rfl ty_row rfl rfl rfl rfl ?_
        | refine AW_loadg rfl rfl rfl rfl ty_rows rfl rfl rfl rfl ?_
        | refine AW_callg rfl rfl rfl rfl rfl (by first | exact ct_gsize _ (by assumption) | exact ct_limbOf 1 (by decide) (by decide) | exact ct_gzero _ | exact ct_Mul0 _ _ (by omega) (by omega) (by omega) | exact ct_Sub0 _ _ (by omega) (by assumption) (by assumption) | exact ct_TruncN _ _ (by assumption) (by assumption) (by assumption)) ?_
        | refine AW_nil (fun (h : false = true) => by cases h) ?_
        | refine AW_nil (fun (_ : true = true) => by kernel_rfl) ?_
        | refine Wp_block ?_
        | refine Wp_skip ?_
        | refine Wp_exit ?_
        | refine Wp_ret ?_
      refine Wp_condT rfl ?_
      repeat first
        | refine Wp_seq ?_
        | refine Wp_region tm_mixed ?_
        | refine AW_move rfl rfl ?_
        | refine AW_assign rfl rfl ?_
        | refine AW_load rfl ty_num rfl rfl rfl rfl ?_
        | refine AW_load rfl ty_row rfl rfl rfl rfl ?_
        | refine AW_load rfl ty_rows rfl rfl rfl rfl ?_
        | refine AW_store ty_num rfl rfl rfl rfl rfl rfl rfl ?_
        | refine AW_store ty_row rfl rfl rfl rfl rfl rfl rfl ?_
        | refine AW_store ty_rows rfl rfl rfl rfl rfl rfl rfl ?_
        | refine AW_extract rfl rfl rfl ?_
        | refine AW_alloc rfl tz_num ?_
        | refine AW_alloc rfl tz_row ?_
        | refine AW_alloc rfl tz_rows ?_
        | refine AW_box rfl rfl (row := true) rfl (fun h => by cases h) rfl ?_
        | refine AW_not rfl rfl ?_
        | refine AW_build rfl tb_num rfl ?_
        | refine AW_build rfl tb_row rfl ?_
        | refine AW_build rfl tb_rows rfl ?_
        | refine AW_call rfl rfl (by first | exact ct_gsize _ (by assumption) | exact ct_limbOf 1 (by decide) (by decide) | exact ct_gzero _ | exact ct_Mul0 _ _ (by omega) (by omega) (by omega) | exact ct_Sub0 _ _ (by omega) (by assumption) (by assumption) | exact ct_TruncN _ _ (by assumption) (by assumption) (by assumption)) ?_
        | refine AW_ints rfl tu_nums ti_num ti_size ti_zero rfl rfl rfl (by first | exact .cons _ _ _ _ _ rfl (.cons _ _ _ _ _ rfl (.nil _)) | exact .cons _ _ _ _ _ rfl (.cons _ _ _ _ _ rfl (.cons _ _ _ _ _ rfl (.cons _ _ _ _ _ rfl (.nil _)))) | exact .cons _ _ _ _ _ rfl (.cons _ _ _ _ _ rfl (.cons _ _ _ _ _ rfl (.nil _))) | exact .cons _ _ _ _ _ rfl (.cons _ _ _ _ _ rfl (.cons _ _ _ _ _ rfl (.cons _ _ _ _ _ rfl (.cons _ _ _ _ _ rfl (.nil _)))))) ?_
        | refine AW_fieldAddr rfl tf_row0 rfl rfl ?_ | refine AW_fieldAddr rfl tf_row1 rfl rfl ?_ | refine AW_arrayAt rfl Try.underlying85 ts_row rfl rfl rfl rfl ?_ | refine AW_arrayAt rfl Try.underlying73 ts_num rfl rfl rfl rfl ?_
        | refine AW_pickT rfl rfl rfl ?_
        | refine AW_pickF rfl rfl rfl ?_
        | refine AW_skip rfl rfl rfl rfl ?_
        | refine AW_pickTg rfl rfl rfl rfl rfl rfl ?_
        | refine AW_pickFg rfl rfl rfl rfl rfl rfl ?_
        | refine AW_moveg rfl rfl rfl rfl rfl ?_
        | refine AW_notg rfl rfl rfl rfl rfl ?_
        | refine AW_eqg rfl rfl rfl rfl rfl rfl ?_
        | refine AW_eq rfl rfl rfl ?_
        | refine AW_loadg rfl rfl rfl rfl ty_num rfl rfl rfl rfl ?_
        | refine AW_loadg rfl rfl rfl rfl ty_row rfl rfl rfl rfl ?_
        | refine AW_loadg rfl rfl rfl rfl ty_rows rfl rfl rfl rfl ?_
        | refine AW_callg rfl rfl rfl rfl rfl (by first | exact ct_gsize _ (by assumption) | exact ct_limbOf 1 (by decide) (by decide) | exact ct_gzero _ | exact ct_Mul0 _ _ (by omega) (by omega) (by omega) | exact ct_Sub0 _ _ (by omega) (by assumption) (by assumption) | exact ct_TruncN _ _ (by assumption) (by assumption) (by assumption)) ?_
        | refine AW_nil (fun (h : false = true) => by cases h) ?_
        | refine AW_nil (fun (_ : true = true) => by kernel_rfl) ?_
        | refine Wp_block ?_
        | refine Wp_skip ?_
        | refine Wp_exit ?_
        | refine Wp_ret ?_
      refine Wp_cond rfl (fun hw => ?_) (fun hw => ?_)
      · subst hw
        rw [if_pos rfl] at hx
        have k2 : lc (y0 - ((n0 / n1 : Nat) : Int) * y1).natAbs ≤ 4096 := by rw [← hx]; exact Nat.le_trans t5 (by decide)
        repeat first
          | refine Wp_seq ?_
          | refine Wp_region tm_mixed ?_
          | refine AW_move rfl rfl ?_
          | refine AW_assign rfl rfl ?_
          | refine AW_load rfl ty_num rfl rfl rfl rfl ?_
          | refine AW_load rfl ty_row rfl rfl rfl rfl ?_
          | refine AW_load rfl ty_rows rfl rfl rfl rfl ?_
          | refine AW_store ty_num rfl rfl rfl rfl rfl rfl rfl ?_
          | refine AW_store ty_row rfl rfl rfl rfl rfl rfl rfl ?_
          | refine AW_store ty_rows rfl rfl rfl rfl rfl rfl rfl ?_
          | refine AW_extract rfl rfl rfl ?_
          | refine AW_alloc rfl tz_num ?_
          | refine AW_alloc rfl tz_row ?_
          | refine AW_alloc rfl tz_rows ?_
          | refine AW_box rfl rfl (row := true) rfl (fun h => by cases h) rfl ?_
          | refine AW_not rfl rfl ?_
          | refine AW_build rfl tb_num rfl ?_
          | refine AW_build rfl tb_row rfl ?_
          | refine AW_build rfl tb_rows rfl ?_
          | refine AW_call rfl rfl (by first | exact ct_gsize _ (by assumption) | exact ct_limbOf 1 (by decide) (by decide) | exact ct_gzero _ | exact ct_Mul0 _ _ (by omega) (by omega) (by omega) | exact ct_Sub0 _ _ (by omega) (by assumption) (by assumption) | exact ct_TruncN _ _ (by assumption) (by assumption) (by assumption)) ?_
          | refine AW_ints rfl tu_nums ti_num ti_size ti_zero rfl rfl rfl (by first | exact .cons _ _ _ _ _ rfl (.cons _ _ _ _ _ rfl (.nil _)) | exact .cons _ _ _ _ _ rfl (.cons _ _ _ _ _ rfl (.cons _ _ _ _ _ rfl (.cons _ _ _ _ _ rfl (.nil _)))) | exact .cons _ _ _ _ _ rfl (.cons _ _ _ _ _ rfl (.cons _ _ _ _ _ rfl (.nil _))) | exact .cons _ _ _ _ _ rfl (.cons _ _ _ _ _ rfl (.cons _ _ _ _ _ rfl (.cons _ _ _ _ _ rfl (.cons _ _ _ _ _ rfl (.nil _)))))) ?_
          | refine AW_fieldAddr rfl tf_row0 rfl rfl ?_ | refine AW_fieldAddr rfl tf_row1 rfl rfl ?_ | refine AW_arrayAt rfl Try.underlying85 ts_row rfl rfl rfl rfl ?_ | refine AW_arrayAt rfl Try.underlying73 ts_num rfl rfl rfl rfl ?_
          | refine AW_pickT rfl rfl rfl ?_
          | refine AW_pickF rfl rfl rfl ?_
          | refine AW_skip rfl rfl rfl rfl ?_
          | refine AW_pickTg rfl rfl rfl rfl rfl rfl ?_
          | refine AW_pickFg rfl rfl rfl rfl rfl rfl ?_
          | refine AW_moveg rfl rfl rfl rfl rfl ?_
          | refine AW_notg rfl rfl rfl rfl rfl ?_
          | refine AW_eqg rfl rfl rfl rfl rfl rfl ?_
          | refine AW_eq rfl rfl rfl ?_
          | refine AW_loadg rfl rfl rfl rfl ty_num rfl rfl rfl rfl ?_
          | refine AW_loadg rfl rfl rfl rfl ty_row rfl rfl rfl rfl ?_
          | refine AW_loadg rfl rfl rfl rfl ty_rows rfl rfl rfl rfl ?_
          | refine AW_callg rfl rfl rfl rfl rfl (by first | exact ct_gsize _ (by assumption) | exact ct_limbOf 1 (by decide) (by decide) | exact ct_gzero _ | exact ct_Mul0 _ _ (by omega) (by omega) (by omega) | exact ct_Sub0 _ _ (by omega) (by assumption) (by assumption) | exact ct_TruncN _ _ (by assumption) (by assumption) (by assumption)) ?_
          | refine AW_nil (fun (h : false = true) => by cases h) ?_
          | refine AW_nil (fun (_ : true = true) => by kernel_rfl) ?_
          | refine Wp_block ?_
          | refine Wp_skip ?_
          | refine Wp_exit ?_
          | refine Wp_ret ?_
        refine AW_quiet rfl (q_add rfl rfl) ?_
        repeat first
          | refine Wp_seq ?_
          | refine Wp_region tm_mixed ?_
          | refine AW_move rfl rfl ?_
          | refine AW_assign rfl rfl ?_
          | refine AW_load rfl ty_num rfl rfl rfl rfl ?_
          | refine AW_load rfl ty_row rfl rfl rfl rfl ?_
          | refine AW_load rfl ty_rows rfl rfl rfl rfl ?_
          | refine AW_store ty_num rfl rfl rfl rfl rfl rfl rfl ?_
          | refine AW_store ty_row rfl rfl rfl rfl rfl rfl rfl ?_
          | refine AW_store ty_rows rfl rfl rfl rfl rfl rfl rfl ?_
          | refine AW_extract rfl rfl rfl ?_
          | refine AW_alloc rfl tz_num ?_
          | refine AW_alloc rfl tz_row ?_
          | refine AW_alloc rfl tz_rows ?_
          | refine AW_box rfl rfl (row := true) rfl (fun h => by cases h) rfl ?_
          | refine AW_not rfl rfl ?_
          | refine AW_build rfl tb_num rfl ?_
          | refine AW_build rfl tb_row rfl ?_
          | refine AW_build rfl tb_rows rfl ?_
          | refine AW_call rfl rfl (by first | exact ct_gsize _ (by assumption) | exact ct_limbOf 1 (by decide) (by decide) | exact ct_gzero _ | exact ct_Mul0 _ _ (by omega) (by omega) (by omega) | exact ct_Sub0 _ _ (by omega) (by assumption) (by assumption) | exact ct_TruncN _ _ (by assumption) (by assumption) (by assumption)) ?_
          | refine AW_ints rfl tu_nums ti_num ti_size ti_zero rfl rfl rfl (by first | exact .cons _ _ _ _ _ rfl (.cons _ _ _ _ _ rfl (.nil _)) | exact .cons _ _ _ _ _ rfl (.cons _ _ _ _ _ rfl (.cons _ _ _ _ _ rfl (.cons _ _ _ _ _ rfl (.nil _)))) | exact .cons _ _ _ _ _ rfl (.cons _ _ _ _ _ rfl (.cons _ _ _ _ _ rfl (.nil _))) | exact .cons _ _ _ _ _ rfl (.cons _ _ _ _ _ rfl (.cons _ _ _ _ _ rfl (.cons _ _ _ _ _ rfl (.cons _ _ _ _ _ rfl (.nil _)))))) ?_
          | refine AW_fieldAddr rfl tf_row0 rfl rfl ?_ | refine AW_fieldAddr rfl tf_row1 rfl rfl ?_ | refine AW_arrayAt rfl Try.underlying85 ts_row rfl rfl rfl rfl ?_ | refine AW_arrayAt rfl Try.underlying73 ts_num rfl rfl rfl rfl ?_
          | refine AW_pickT rfl rfl rfl ?_
          | refine AW_pickF rfl rfl rfl ?_
          | refine AW_skip rfl rfl rfl rfl ?_
          | refine AW_pickTg rfl rfl rfl rfl rfl rfl ?_
          | refine AW_pickFg rfl rfl rfl rfl rfl rfl ?_
          | refine AW_moveg rfl rfl rfl rfl rfl ?_
          | refine AW_notg rfl rfl rfl rfl rfl ?_
          | refine AW_eqg rfl rfl rfl rfl rfl rfl ?_
          | refine AW_eq rfl rfl rfl ?_
          | refine AW_loadg rfl rfl rfl rfl ty_num rfl rfl rfl rfl ?_
          | refine AW_loadg rfl rfl rfl rfl ty_row rfl rfl rfl rfl ?_
          | refine AW_loadg rfl rfl rfl rfl ty_rows rfl rfl rfl rfl ?_
          | refine AW_callg rfl rfl rfl rfl rfl (by first | exact ct_gsize _ (by assumption) | exact ct_limbOf 1 (by decide) (by decide) | exact ct_gzero _ | exact ct_Mul0 _ _ (by omega) (by omega) (by omega) | exact ct_Sub0 _ _ (by omega) (by assumption) (by assumption) | exact ct_TruncN _ _ (by assumption) (by assumption) (by assumption)) ?_
          | refine AW_nil (fun (h : false = true) => by cases h) ?_
          | refine AW_nil (fun (_ : true = true) => by kernel_rfl) ?_
          | refine Wp_block ?_
          | refine Wp_skip ?_
          | refine Wp_exit ?_
          | refine Wp_ret ?_
        exact ⟨(2, rawOf nx, rawOf ny), ⟨by omega, fun _ => rfl, fun _ => rfl, by omega, by omega⟩, le_of ⟨rfl, rfl, rfl, rfl, rfl, rfl, rfl, trivial⟩ ⟨by rw [hx]; rfl, rfl, rfl, rfl, trivial⟩ rfl, by omega⟩
      · subst hw
        rw [if_neg (by decide)] at hx
        subst hx
        repeat first
          | refine Wp_seq ?_
          | refine Wp_region tm_mixed ?_
          | refine AW_move rfl rfl ?_
          | refine AW_assign rfl rfl ?_
          | refine AW_load rfl ty_num rfl rfl rfl rfl ?_
          | refine AW_load rfl ty_row rfl rfl rfl rfl ?_
          | refine AW_load rfl ty_rows rfl rfl rfl rfl ?_
          | refine AW_store ty_num rfl rfl rfl rfl rfl rfl rfl ?_
          | refine AW_store ty_row rfl rfl rfl rfl rfl rfl rfl ?_
          | refine AW_store ty_rows rfl rfl rfl rfl rfl rfl rfl ?_
          | refine AW_extract rfl rfl rfl ?_
          | refine AW_alloc rfl tz_num ?_
          | refine AW_alloc rfl tz_row ?_
          | refine AW_alloc rfl tz_rows ?_
          | refine AW_box rfl rfl (row := true) rfl (fun h => by cases h) rfl ?_
          | refine AW_not rfl rfl ?_
          | refine AW_build rfl tb_num rfl ?_
          | refine AW_build rfl tb_row rfl ?_
          | refine AW_build rfl tb_rows rfl ?_
          | refine AW_call rfl rfl (by first | exact ct_gsize _ (by assumption) | exact ct_limbOf 1 (by decide) (by decide) | exact ct_gzero _ | exact ct_Mul0 _ _ (by omega) (by omega) (by omega) | exact ct_Sub0 _ _ (by omega) (by assumption) (by assumption) | exact ct_TruncN _ _ (by assumption) (by assumption) (by assumption)) ?_
          | refine AW_ints rfl tu_nums ti_num ti_size ti_zero rfl rfl rfl (by first | exact .cons _ _ _ _ _ rfl (.cons _ _ _ _ _ rfl (.nil _)) | exact .cons _ _ _ _ _ rfl (.cons _ _ _ _ _ rfl (.cons _ _ _ _ _ rfl (.cons _ _ _ _ _ rfl (.nil _)))) | exact .cons _ _ _ _ _ rfl (.cons _ _ _ _ _ rfl (.cons _ _ _ _ _ rfl (.nil _))) | exact .cons _ _ _ _ _ rfl (.cons _ _ _ _ _ rfl (.cons _ _ _ _ _ rfl (.cons _ _ _ _ _ rfl (.cons _ _ _ _ _ rfl (.nil _)))))) ?_
          | refine AW_fieldAddr rfl tf_row0 rfl rfl ?_ | refine AW_fieldAddr rfl tf_row1 rfl rfl ?_ | refine AW_arrayAt rfl Try.underlying85 ts_row rfl rfl rfl rfl ?_ | refine AW_arrayAt rfl Try.underlying73 ts_num rfl rfl rfl rfl ?_
          | refine AW_pickT rfl rfl rfl ?_
          | refine AW_pickF rfl rfl rfl ?_
          | refine AW_skip rfl rfl rfl rfl ?_
          | refine AW_pickTg rfl rfl rfl rfl rfl rfl ?_
          | refine AW_pickFg rfl rfl rfl rfl rfl rfl ?_
          | refine AW_moveg rfl rfl rfl rfl rfl ?_
          | refine AW_notg rfl rfl rfl rfl rfl ?_
          | refine AW_eqg rfl rfl rfl rfl rfl rfl ?_
          | refine AW_eq rfl rfl rfl ?_
          | refine AW_loadg rfl rfl rfl rfl ty_num rfl rfl rfl rfl ?_
          | refine AW_loadg rfl rfl rfl rfl ty_row rfl rfl rfl rfl ?_
          | refine AW_loadg rfl rfl rfl rfl ty_rows rfl rfl rfl rfl ?_
          | refine AW_callg rfl rfl rfl rfl rfl (by first | exact ct_gsize _ (by assumption) | exact ct_limbOf 1 (by decide) (by decide) | exact ct_gzero _ | exact ct_Mul0 _ _ (by omega) (by omega) (by omega) | exact ct_Sub0 _ _ (by omega) (by assumption) (by assumption) | exact ct_TruncN _ _ (by assumption) (by assumption) (by assumption)) ?_
          | refine AW_nil (fun (h : false = true) => by cases h) ?_
          | refine AW_nil (fun (_ : true = true) => by kernel_rfl) ?_
          | refine Wp_block ?_
          | refine Wp_skip ?_
          | refine Wp_exit ?_
          | refine Wp_ret ?_
        refine AW_quiet rfl (q_add rfl rfl) ?_
        repeat first
          | refine Wp_seq ?_
          | refine Wp_region tm_mixed ?_
          | refine AW_move rfl rfl ?_
          | refine AW_assign rfl rfl ?_
          | refine AW_load rfl ty_num rfl rfl rfl rfl ?_
          | refine AW_load rfl ty_row rfl rfl rfl rfl ?_
          | refine AW_load rfl ty_rows rfl rfl rfl rfl ?_
          | refine AW_store ty_num rfl rfl rfl rfl rfl rfl rfl ?_
          | refine AW_store ty_row rfl rfl rfl rfl rfl rfl rfl ?_
          | refine AW_store ty_rows rfl rfl rfl rfl rfl rfl rfl ?_
          | refine AW_extract rfl rfl rfl ?_
          | refine AW_alloc rfl tz_num ?_
          | refine AW_alloc rfl tz_row ?_
          | refine AW_alloc rfl tz_rows ?_
          | refine AW_box rfl rfl (row := true) rfl (fun h => by cases h) rfl ?_
          | refine AW_not rfl rfl ?_
          | refine AW_build rfl tb_num rfl ?_
          | refine AW_build rfl tb_row rfl ?_
          | refine AW_build rfl tb_rows rfl ?_
          | refine AW_call rfl rfl (by first | exact ct_gsize _ (by assumption) | exact ct_limbOf 1 (by decide) (by decide) | exact ct_gzero _ | exact ct_Mul0 _ _ (by omega) (by omega) (by omega) | exact ct_Sub0 _ _ (by omega) (by assumption) (by assumption) | exact ct_TruncN _ _ (by assumption) (by assumption) (by assumption)) ?_
          | refine AW_ints rfl tu_nums ti_num ti_size ti_zero rfl rfl rfl (by first | exact .cons _ _ _ _ _ rfl (.cons _ _ _ _ _ rfl (.nil _)) | exact .cons _ _ _ _ _ rfl (.cons _ _ _ _ _ rfl (.cons _ _ _ _ _ rfl (.cons _ _ _ _ _ rfl (.nil _)))) | exact .cons _ _ _ _ _ rfl (.cons _ _ _ _ _ rfl (.cons _ _ _ _ _ rfl (.nil _))) | exact .cons _ _ _ _ _ rfl (.cons _ _ _ _ _ rfl (.cons _ _ _ _ _ rfl (.cons _ _ _ _ _ rfl (.cons _ _ _ _ _ rfl (.nil _)))))) ?_
          | refine AW_fieldAddr rfl tf_row0 rfl rfl ?_ | refine AW_fieldAddr rfl tf_row1 rfl rfl ?_ | refine AW_arrayAt rfl Try.underlying85 ts_row rfl rfl rfl rfl ?_ | refine AW_arrayAt rfl Try.underlying73 ts_num rfl rfl rfl rfl ?_
          | refine AW_pickT rfl rfl rfl ?_
          | refine AW_pickF rfl rfl rfl ?_
          | refine AW_skip rfl rfl rfl rfl ?_
          | refine AW_pickTg rfl rfl rfl rfl rfl rfl ?_
          | refine AW_pickFg rfl rfl rfl rfl rfl rfl ?_
          | refine AW_moveg rfl rfl rfl rfl rfl ?_
          | refine AW_notg rfl rfl rfl rfl rfl ?_
          | refine AW_eqg rfl rfl rfl rfl rfl rfl ?_
          | refine AW_eq rfl rfl rfl ?_
          | refine AW_loadg rfl rfl rfl rfl ty_num rfl rfl rfl rfl ?_
          | refine AW_loadg rfl rfl rfl rfl ty_row rfl rfl rfl rfl ?_
          | refine AW_loadg rfl rfl rfl rfl ty_rows rfl rfl rfl rfl ?_
          | refine AW_callg rfl rfl rfl rfl rfl (by first | exact ct_gsize _ (by assumption) | exact ct_limbOf 1 (by decide) (by decide) | exact ct_gzero _ | exact ct_Mul0 _ _ (by omega) (by omega) (by omega) | exact ct_Sub0 _ _ (by omega) (by assumption) (by assumption) | exact ct_TruncN _ _ (by assumption) (by assumption) (by assumption)) ?_
          | refine AW_nil (fun (h : false = true) => by cases h) ?_
          | refine AW_nil (fun (_ : true = true) => by kernel_rfl) ?_
          | refine Wp_block ?_
          | refine Wp_skip ?_
          | refine Wp_exit ?_
          | refine Wp_ret ?_
        exact ⟨(2, rawOf nx, (false, [])), ⟨by omega, fun _ => rfl, fun _ => rawOf_zero.symm, by omega, by omega⟩, le_of ⟨rfl, rfl, rfl, rfl, rfl, rfl, rfl, trivial⟩ ⟨rfl, rfl, rfl, rfl, trivial⟩ rfl, by omega⟩
    · obtain rfl := hu1 (by omega)
      obtain rfl := hv2 (by omega)
      repeat first
        | refine Wp_seq ?_
        | refine Wp_region tm_mixed ?_
        | refine AW_move rfl rfl ?_
        | refine AW_assign rfl rfl ?_
        | refine AW_load rfl ty_num rfl rfl rfl rfl ?_
        | refine AW_load rfl ty_row rfl rfl rfl rfl ?_
        | refine AW_load rfl ty_rows rfl rfl rfl rfl ?_
        | refine AW_store ty_num rfl rfl rfl rfl rfl rfl rfl ?_
        | refine AW_store ty_row rfl rfl rfl rfl rfl rfl rfl ?_
        | refine AW_store ty_rows rfl rfl rfl rfl rfl rfl rfl ?_
        | refine AW_extract rfl rfl rfl ?_
        | refine AW_alloc rfl tz_num ?_
        | refine AW_alloc rfl tz_row ?_
        | refine AW_alloc rfl tz_rows ?_
        | refine AW_box rfl rfl (row := true) rfl (fun h => by cases h) rfl ?_
        | refine AW_not rfl rfl ?_
        | refine AW_build rfl tb_num rfl ?_
        | refine AW_build rfl tb_row rfl ?_
        | refine AW_build rfl tb_rows rfl ?_
        | refine AW_call rfl rfl (by first | exact ct_gsize _ (by assumption) | exact ct_limbOf 1 (by decide) (by decide) | exact ct_gzero _ | exact ct_Mul0 _ _ (by omega) (by omega) (by omega) | exact ct_Sub0 _ _ (by omega) (by assumption) (by assumption) | exact ct_TruncN _ _ (by assumption) (by assumption) (by assumption)) ?_
        | refine AW_ints rfl tu_nums ti_num ti_size ti_zero rfl rfl rfl (by first | exact .cons _ _ _ _ _ rfl (.cons _ _ _ _ _ rfl (.nil _)) | exact .cons _ _ _ _ _ rfl (.cons _ _ _ _ _ rfl (.cons _ _ _ _ _ rfl (.cons _ _ _ _ _ rfl (.nil _)))) | exact .cons _ _ _ _ _ rfl (.cons _ _ _ _ _ rfl (.cons _ _ _ _ _ rfl (.nil _))) | exact .cons _ _ _ _ _ rfl (.cons _ _ _ _ _ rfl (.cons _ _ _ _ _ rfl (.cons _ _ _ _ _ rfl (.cons _ _ _ _ _ rfl (.nil _)))))) ?_
        | refine AW_fieldAddr rfl tf_row0 rfl rfl ?_ | refine AW_fieldAddr rfl tf_row1 rfl rfl ?_ | refine AW_arrayAt rfl Try.underlying85 ts_row rfl rfl rfl rfl ?_ | refine AW_arrayAt rfl Try.underlying73 ts_num rfl rfl rfl rfl ?_
        | refine AW_pickT rfl rfl rfl ?_
        | refine AW_pickF rfl rfl rfl ?_
        | refine AW_skip rfl rfl rfl rfl ?_
        | refine AW_pickTg rfl rfl rfl rfl rfl rfl ?_
        | refine AW_pickFg rfl rfl rfl rfl rfl rfl ?_
        | refine AW_moveg rfl rfl rfl rfl rfl ?_
        | refine AW_notg rfl rfl rfl rfl rfl ?_
        | refine AW_eqg rfl rfl rfl rfl rfl rfl ?_
        | refine AW_eq rfl rfl rfl ?_
        | refine AW_loadg rfl rfl rfl rfl ty_num rfl rfl rfl rfl ?_
        | refine AW_loadg rfl rfl rfl rfl ty_row rfl rfl rfl rfl ?_
        | refine AW_loadg rfl rfl rfl rfl ty_rows rfl rfl rfl rfl ?_
        | refine AW_callg rfl rfl rfl rfl rfl (by first | exact ct_gsize _ (by assumption) | exact ct_limbOf 1 (by decide) (by decide) | exact ct_gzero _ | exact ct_Mul0 _ _ (by omega) (by omega) (by omega) | exact ct_Sub0 _ _ (by omega) (by assumption) (by assumption) | exact ct_TruncN _ _ (by assumption) (by assumption) (by assumption)) ?_
        | refine AW_nil (fun (h : false = true) => by cases h) ?_
        | refine AW_nil (fun (_ : true = true) => by kernel_rfl) ?_
        | refine Wp_block ?_
        | refine Wp_skip ?_
        | refine Wp_exit ?_
        | refine Wp_ret ?_
      refine AW_quiet rfl (q_lt rfl rfl) ?_
      repeat first
        | refine Wp_seq ?_
        | refine Wp_region tm_mixed ?_
        | refine AW_move rfl rfl ?_
        | refine AW_assign rfl rfl ?_
        | refine AW_load rfl ty_num rfl rfl rfl rfl ?_
        | refine AW_load rfl ty_row rfl rfl rfl rfl ?_
        | refine AW_load rfl ty_rows rfl rfl rfl rfl ?_
        | refine AW_store ty_num rfl rfl rfl rfl rfl rfl rfl ?_
        | refine AW_store ty_row rfl rfl rfl rfl rfl rfl rfl ?_
        | refine AW_store ty_rows rfl rfl rfl rfl rfl rfl rfl ?_
        | refine AW_extract rfl rfl rfl ?_
        | refine AW_alloc rfl tz_num ?_
        | refine AW_alloc rfl tz_row ?_
        | refine AW_alloc rfl tz_rows ?_
        | refine AW_box rfl rfl (row := true) rfl (fun h => by cases h) rfl ?_
        | refine AW_not rfl rfl ?_
        | refine AW_build rfl tb_num rfl ?_
        | refine AW_build rfl tb_row rfl ?_
        | refine AW_build rfl tb_rows rfl ?_
        | refine AW_call rfl rfl (by first | exact ct_gsize _ (by assumption) | exact ct_limbOf 1 (by decide) (by decide) | exact ct_gzero _ | exact ct_Mul0 _ _ (by omega) (by omega) (by omega) | exact ct_Sub0 _ _ (by omega) (by assumption) (by assumption) | exact ct_TruncN _ _ (by assumption) (by assumption) (by assumption)) ?_
        | refine AW_ints rfl tu_nums ti_num ti_size ti_zero rfl rfl rfl (by first | exact .cons _ _ _ _ _ rfl (.cons _ _ _ _ _ rfl (.nil _)) | exact .cons _ _ _ _ _ rfl (.cons _ _ _ _ _ rfl (.cons _ _ _ _ _ rfl (.cons _ _ _ _ _ rfl (.nil _)))) | exact .cons _ _ _ _ _ rfl (.cons _ _ _ _ _ rfl (.cons _ _ _ _ _ rfl (.nil _))) | exact .cons _ _ _ _ _ rfl (.cons _ _ _ _ _ rfl (.cons _ _ _ _ _ rfl (.cons _ _ _ _ _ rfl (.cons _ _ _ _ _ rfl (.nil _)))))) ?_
        | refine AW_fieldAddr rfl tf_row0 rfl rfl ?_ | refine AW_fieldAddr rfl tf_row1 rfl rfl ?_ | refine AW_arrayAt rfl Try.underlying85 ts_row rfl rfl rfl rfl ?_ | refine AW_arrayAt rfl Try.underlying73 ts_num rfl rfl rfl rfl ?_
        | refine AW_pickT rfl rfl rfl ?_
        | refine AW_pickF rfl rfl rfl ?_
        | refine AW_skip rfl rfl rfl rfl ?_
        | refine AW_pickTg rfl rfl rfl rfl rfl rfl ?_
        | refine AW_pickFg rfl rfl rfl rfl rfl rfl ?_
        | refine AW_moveg rfl rfl rfl rfl rfl ?_
        | refine AW_notg rfl rfl rfl rfl rfl ?_
        | refine AW_eqg rfl rfl rfl rfl rfl rfl ?_
        | refine AW_eq rfl rfl rfl ?_
        | refine AW_loadg rfl rfl rfl rfl ty_num rfl rfl rfl rfl ?_
        | refine AW_loadg rfl rfl rfl rfl ty_row rfl rfl rfl rfl ?_
        | refine AW_loadg rfl rfl rfl rfl ty_rows rfl rfl rfl rfl ?_
        | refine AW_callg rfl rfl rfl rfl rfl (by first | exact ct_gsize _ (by assumption) | exact ct_limbOf 1 (by decide) (by decide) | exact ct_gzero _ | exact ct_Mul0 _ _ (by omega) (by omega) (by omega) | exact ct_Sub0 _ _ (by omega) (by assumption) (by assumption) | exact ct_TruncN _ _ (by assumption) (by assumption) (by assumption)) ?_
        | refine AW_nil (fun (h : false = true) => by cases h) ?_
        | refine AW_nil (fun (_ : true = true) => by kernel_rfl) ?_
        | refine Wp_block ?_
        | refine Wp_skip ?_
        | refine Wp_exit ?_
        | refine Wp_ret ?_
      refine Wp_condF rfl ?_
      repeat first
        | refine Wp_seq ?_
        | refine Wp_region tm_mixed ?_
        | refine AW_move rfl rfl ?_
        | refine AW_assign rfl rfl ?_
        | refine AW_load rfl ty_num rfl rfl rfl rfl ?_
        | refine AW_load rfl ty_row rfl rfl rfl rfl ?_
        | refine AW_load rfl ty_rows rfl rfl rfl rfl ?_
        | refine AW_store ty_num rfl rfl rfl rfl rfl rfl rfl ?_
        | refine AW_store ty_row rfl rfl rfl rfl rfl rfl rfl ?_
        | refine AW_store ty_rows rfl rfl rfl rfl rfl rfl rfl ?_
        | refine AW_extract rfl rfl rfl ?_
        | refine AW_alloc rfl tz_num ?_
        | refine AW_alloc rfl tz_row ?_
        | refine AW_alloc rfl tz_rows ?_
        | refine AW_box rfl rfl (row := true) rfl (fun h => by cases h) rfl ?_
        | refine AW_not rfl rfl ?_
        | refine AW_build rfl tb_num rfl ?_
        | refine AW_build rfl tb_row rfl ?_
        | refine AW_build rfl tb_rows rfl ?_
        | refine AW_call rfl rfl (by first | exact ct_gsize _ (by assumption) | exact ct_limbOf 1 (by decide) (by decide) | exact ct_gzero _ | exact ct_Mul0 _ _ (by omega) (by omega) (by omega) | exact ct_Sub0 _ _ (by omega) (by assumption) (by assumption) | exact ct_TruncN _ _ (by assumption) (by assumption) (by assumption)) ?_
        | refine AW_ints rfl tu_nums ti_num ti_size ti_zero rfl rfl rfl (by first | exact .cons _ _ _ _ _ rfl (.cons _ _ _ _ _ rfl (.nil _)) | exact .cons _ _ _ _ _ rfl (.cons _ _ _ _ _ rfl (.cons _ _ _ _ _ rfl (.cons _ _ _ _ _ rfl (.nil _)))) | exact .cons _ _ _ _ _ rfl (.cons _ _ _ _ _ rfl (.cons _ _ _ _ _ rfl (.nil _))) | exact .cons _ _ _ _ _ rfl (.cons _ _ _ _ _ rfl (.cons _ _ _ _ _ rfl (.cons _ _ _ _ _ rfl (.cons _ _ _ _ _ rfl (.nil _)))))) ?_
        | refine AW_fieldAddr rfl tf_row0 rfl rfl ?_ | refine AW_fieldAddr rfl tf_row1 rfl rfl ?_ | refine AW_arrayAt rfl Try.underlying85 ts_row rfl rfl rfl rfl ?_ | refine AW_arrayAt rfl Try.underlying73 ts_num rfl rfl rfl rfl ?_
        | refine AW_pickT rfl rfl rfl ?_
        | refine AW_pickF rfl rfl rfl ?_
        | refine AW_skip rfl rfl rfl rfl ?_
        | refine AW_pickTg rfl rfl rfl rfl rfl rfl ?_
        | refine AW_pickFg rfl rfl rfl rfl rfl rfl ?_
        | refine AW_moveg rfl rfl rfl rfl rfl ?_
        | refine AW_notg rfl rfl rfl rfl rfl ?_
        | refine AW_eqg rfl rfl rfl rfl rfl rfl ?_
        | refine AW_eq rfl rfl rfl ?_
        | refine AW_loadg rfl rfl rfl rfl ty_num rfl rfl rfl rfl ?_
        | refine AW_loadg rfl rfl rfl rfl ty_row rfl rfl rfl rfl ?_
        | refine AW_loadg rfl rfl rfl rfl ty_rows rfl rfl rfl rfl ?_
        | refine AW_callg rfl rfl rfl rfl rfl (by first | exact ct_gsize _ (by assumption) | exact ct_limbOf 1 (by decide) (by decide) | exact ct_gzero _ | exact ct_Mul0 _ _ (by omega) (by omega) (by omega) | exact ct_Sub0 _ _ (by omega) (by assumption) (by assumption) | exact ct_TruncN _ _ (by assumption) (by assumption) (by assumption)) ?_
        | refine AW_nil (fun (h : false = true) => by cases h) ?_
        | refine AW_nil (fun (_ : true = true) => by kernel_rfl) ?_
        | refine Wp_block ?_
        | refine Wp_skip ?_
        | refine Wp_exit ?_
        | refine Wp_ret ?_
      exact ⟨⟨n1, n0 % n1, x1, y1, nx, ny, rawOf (n1 : Int), rawOf x1, rawOf y1, rawOf ((n0 % n1 : Nat) : Int), rawOf nx, rawOf ny⟩, ⟨rfl, rfl, rfl, rfl, rfl, rfl, hg2, he⟩, le_of ⟨rfl, rfl, rfl, trivial⟩ ⟨rfl, rfl, trivial⟩ rfl, Nat.mod_lt _ (Nat.pos_of_ne_zero hn)⟩
  · have hn : n1 = 0 := by
      refine rawOf_len.1 (Decidable.byContradiction fun h => ?_)
      rw [decide_eq_false h] at hc
      cases hc
    subst hn
    rw [euc_zero] at he
    rw [← he]
    repeat first
      | refine Wp_seq ?_
      | refine Wp_region tm_mixed ?_
      | refine AW_move rfl rfl ?_
      | refine AW_assign rfl rfl ?_
      | refine AW_load rfl ty_num rfl rfl rfl rfl ?_
      | refine AW_load rfl ty_row rfl rfl rfl rfl ?_
      | refine AW_load rfl ty_rows rfl rfl rfl rfl ?_
      | refine AW_store ty_num rfl rfl rfl rfl rfl rfl rfl ?_
      | refine AW_store ty_row rfl rfl rfl rfl rfl rfl rfl ?_
      | refine AW_store ty_rows rfl rfl rfl rfl rfl rfl rfl ?_
      | refine AW_extract rfl rfl rfl ?_
      | refine AW_alloc rfl tz_num ?_
      | refine AW_alloc rfl tz_row ?_
      | refine AW_alloc rfl tz_rows ?_
      | refine AW_box rfl rfl (row := true) rfl (fun h => by cases h) rfl ?_
      | refine AW_not rfl rfl ?_
      | refine AW_build rfl tb_num rfl ?_
      | refine AW_build rfl tb_row rfl ?_
      | refine AW_build rfl tb_rows rfl ?_
      | refine AW_call rfl rfl (by first | exact ct_gsize _ (by assumption) | exact ct_limbOf 1 (by decide) (by decide) | exact ct_gzero _ | exact ct_Mul0 _ _ (by omega) (by omega) (by omega) | exact ct_Sub0 _ _ (by omega) (by assumption) (by assumption) | exact ct_TruncN _ _ (by assumption) (by assumption) (by assumption)) ?_
      | refine AW_ints rfl tu_nums ti_num ti_size ti_zero rfl rfl rfl (by first | exact .cons _ _ _ _ _ rfl (.cons _ _ _ _ _ rfl (.nil _)) | exact .cons _ _ _ _ _ rfl (.cons _ _ _ _ _ rfl (.cons _ _ _ _ _ rfl (.cons _ _ _ _ _ rfl (.nil _)))) | exact .cons _ _ _ _ _ rfl (.cons _ _ _ _ _ rfl (.cons _ _ _ _ _ rfl (.nil _))) | exact .cons _ _ _ _ _ rfl (.cons _ _ _ _ _ rfl (.cons _ _ _ _ _ rfl (.cons _ _ _ _ _ rfl (.cons _ _ _ _ _ rfl (.nil _)))))) ?_
      | refine AW_fieldAddr rfl tf_row0 rfl rfl ?_ | refine AW_fieldAddr rfl tf_row1 rfl rfl ?_ | refine AW_arrayAt rfl Try.underlying85 ts_row rfl rfl rfl rfl ?_ | refine AW_arrayAt rfl Try.underlying73 ts_num rfl rfl rfl rfl ?_
      | refine AW_pickT rfl rfl rfl ?_
      | refine AW_pickF rfl rfl rfl ?_
      | refine AW_skip rfl rfl rfl rfl ?_
      | refine AW_pickTg rfl rfl rfl rfl rfl rfl ?_
      | refine AW_pickFg rfl rfl rfl rfl rfl rfl ?_
      | refine AW_moveg rfl rfl rfl rfl rfl ?_
      | refine AW_notg rfl rfl rfl rfl rfl ?_
      | refine AW_eqg rfl rfl rfl rfl rfl rfl ?_
      | refine AW_eq rfl rfl rfl ?_
      | refine AW_loadg rfl rfl rfl rfl ty_num rfl rfl rfl rfl ?_
      | refine AW_loadg rfl rfl rfl rfl ty_row rfl rfl rfl rfl ?_
      | refine AW_loadg rfl rfl rfl rfl ty_rows rfl rfl rfl rfl ?_
      | refine AW_callg rfl rfl rfl rfl rfl (by first | exact ct_gsize _ (by assumption) | exact ct_limbOf 1 (by decide) (by decide) | exact ct_gzero _ | exact ct_Mul0 _ _ (by omega) (by omega) (by omega) | exact ct_Sub0 _ _ (by omega) (by assumption) (by assumption) | exact ct_TruncN _ _ (by assumption) (by assumption) (by assumption)) ?_
      | refine AW_nil (fun (h : false = true) => by cases h) ?_
      | refine AW_nil (fun (_ : true = true) => by kernel_rfl) ?_
      | refine Wp_block ?_
      | refine Wp_skip ?_
      | refine Wp_exit ?_
      | refine Wp_ret ?_
    exact ⟨.inr rfl, _, .cell _ _ _ _ _ _ _ _ _ _ _ ty_row rfl rfl rfl .nil, rfl⟩
end Go.Proofs.Ytonbhpadoplpkaa
/- The package gcd, by the abstract machine: Of, Lcm. -/
namespace Go.Proofs.Ytonbhpadoplpkaa
open Go.RowKit Go.Deep
theorem right_raw {z : Int} (h : lc z.natAbs ≤ 4096) : rightInt (rawOf z) = true := right_of h
theorem euc_gcd (whole : Bool) (n0 n1 : Nat) (x0 y0 x1 y1 : Int) : (euc whole n0 n1 x0 y0 x1 y1).1 = Nat.gcd n0 n1 := by
  induction n1 using Nat.strongRecOn generalizing n0 x0 y0 x1 y1 with
  | _ n1 ih =>
    by_cases h : n1 = 0
    · subst h; rw [euc_zero, Nat.gcd_zero_right]
    · rw [euc_step _ _ _ _ _ _ _ h, ih _ (Nat.mod_lt _ (Nat.pos_of_ne_zero h)), Nat.gcd_comm n1, ← Nat.gcd_rec, Nat.gcd_comm]
theorem eucR_gcd (whole : Bool) (a b : Nat) : (eucR whole a b).1 = Nat.gcd a b := euc_gcd _ _ _ _ _ _ _
theorem euc_row {A B : Nat} {whole : Bool} (n0 n1 : Nat) (x0 y0 x1 y1 : Int) (h : GRow A B whole n0 n1 x0 y0 x1 y1) : ∃ x2 y2, GRow A B whole (euc whole n0 n1 x0 y0 x1 y1).1 0 (euc whole n0 n1 x0 y0 x1 y1).2.1 (euc whole n0 n1 x0 y0 x1 y1).2.2 x2 y2 := by
  induction n1 using Nat.strongRecOn generalizing n0 x0 y0 x1 y1 with
  | _ n1 ih =>
    by_cases hn : n1 = 0
    · subst hn; rw [euc_zero]; exact ⟨x1, y1, h⟩
    · rw [euc_step _ _ _ _ _ _ _ hn]
      exact ih _ (Nat.mod_lt _ (Nat.pos_of_ne_zero hn)) _ _ _ _ _ (h.step hn)
theorem eucR_row (whole : Bool) (a b : Nat) : ∃ x2 y2, GRow a b whole (eucR whole a b).1 0 (eucR whole a b).2.1 (eucR whole a b).2.2 x2 y2 := euc_row _ _ _ _ _ _ (GRow.start a b whole)
theorem gcd_small {a b : Int} {k : Nat} (ha : lc a.natAbs ≤ k) (hb : lc b.natAbs ≤ k) : lc (Nat.gcd a.natAbs b.natAbs) ≤ k := by
  by_cases h : a.natAbs = 0
  · rw [h, Nat.gcd_zero_left]; exact hb
  · exact Nat.le_trans (lc_mono (Nat.le_of_dvd (by omega) (Nat.gcd_dvd_left _ _))) ha
abbrev gcdZ (a b : Int) : Int := (Nat.gcd a.natAbs b.natAbs : Nat)
set_option maxRecDepth 100000 in
theorem ct_gOf (a b : Int) (ha : lc a.natAbs ≤ 90) (hb : lc b.natAbs ≤ 90) : Ct Try.prog 28 [aZ a, aZ b] (.tup [zZ (gcdZ a b), aI 0]) := by
  refine ct_of_wp [.cell 4 24, .tmp 5] [(0, aZ a), (1, aZ b)] 16 Try.func28 rfl rfl rfl rfl rfl rfl rfl rfl ?_
  intro G0 w0
  repeat first
    | refine Wp_seq ?_
    | refine Wp_region tm_mixed ?_
    | refine AW_move rfl rfl ?_
    | refine AW_assign rfl rfl ?_
    | refine AW_load rfl ty_num rfl rfl rfl rfl ?_
    | refine AW_store ty_num rfl rfl rfl rfl rfl rfl rfl ?_
    | refine AW_extract rfl rfl rfl ?_
    | refine AW_alloc rfl tz_num ?_
    | refine AW_box rfl rfl (row := true) rfl (fun h => by cases h) rfl ?_
    | refine AW_not rfl rfl ?_
    | refine AW_build rfl tb_num rfl ?_
    | refine AW_call rfl rfl (by first | exact ct_right _ (Nat.le_of_ble_eq_true rfl) | exact ct_run _ _ _ ha hb) ?_
    | refine AW_ints rfl tu_nums ti_num ti_size ti_zero rfl rfl rfl (by first | exact .cons _ _ _ _ _ rfl (.cons _ _ _ _ _ rfl (.nil _)) | exact .cons _ _ _ _ _ rfl (.cons _ _ _ _ _ rfl (.cons _ _ _ _ _ rfl (.cons _ _ _ _ _ rfl (.nil _)))) | exact .cons _ _ _ _ _ rfl (.cons _ _ _ _ _ rfl (.cons _ _ _ _ _ rfl (.nil _))) | exact .cons _ _ _ _ _ rfl (.cons _ _ _ _ _ rfl (.cons _ _ _ _ _ rfl (.cons _ _ _ _ _ rfl (.cons _ _ _ _ _ rfl (.nil _)))))) ?_
    | refine AW_field rfl tf_row0 rfl rfl rfl ?_
    | refine AW_pickT rfl rfl rfl ?_
    | refine AW_pickF rfl rfl rfl ?_
    | refine AW_skip rfl rfl rfl rfl ?_
    | refine AW_pickTg rfl rfl rfl rfl rfl rfl ?_
    | refine AW_pickFg rfl rfl rfl rfl rfl rfl ?_
    | refine AW_moveg rfl rfl rfl rfl rfl ?_
    | refine AW_notg rfl rfl rfl rfl rfl ?_
    | refine AW_eqg rfl rfl rfl rfl rfl rfl ?_
    | refine AW_eq rfl rfl rfl ?_
    | refine AW_loadg rfl rfl rfl rfl ty_num rfl rfl rfl rfl ?_
    | refine AW_callg rfl rfl rfl rfl rfl (by first | exact ct_right _ (Nat.le_of_ble_eq_true rfl) | exact ct_run _ _ _ ha hb) ?_
    | refine AW_nil (fun (h : false = true) => by cases h) ?_
    | refine AW_nil (fun (_ : true = true) => by kernel_rfl) ?_
    | refine Wp_block ?_
    | refine Wp_skip ?_
    | refine Wp_exit ?_
    | refine Wp_ret ?_
  refine Wp_cond rfl (fun hc => ?_) (fun hc => ?_)
  · simp [right_raw (Nat.le_trans ha (by decide)), right_raw (Nat.le_trans hb (by decide))] at hc
  · repeat first
      | refine Wp_seq ?_
      | refine Wp_region tm_mixed ?_
      | refine AW_move rfl rfl ?_
      | refine AW_assign rfl rfl ?_
      | refine AW_load rfl ty_num rfl rfl rfl rfl ?_
      | refine AW_store ty_num rfl rfl rfl rfl rfl rfl rfl ?_
      | refine AW_extract rfl rfl rfl ?_
      | refine AW_alloc rfl tz_num ?_
      | refine AW_box rfl rfl (row := true) rfl (fun h => by cases h) rfl ?_
      | refine AW_not rfl rfl ?_
      | refine AW_build rfl tb_num rfl ?_
      | refine AW_call rfl rfl (by first | exact ct_right _ (Nat.le_of_ble_eq_true rfl) | exact ct_run _ _ _ ha hb) ?_
      | refine AW_ints rfl tu_nums ti_num ti_size ti_zero rfl rfl rfl (by first | exact .cons _ _ _ _ _ rfl (.cons _ _ _ _ _ rfl (.nil _)) | exact .cons _ _ _ _ _ rfl (.cons _ _ _ _ _ rfl (.cons _ _ _ _ _ rfl (.cons _ _ _ _ _ rfl (.nil _)))) | exact .cons _ _ _ _ _ rfl (.cons _ _ _ _ _ rfl (.cons _ _ _ _ _ rfl (.nil _))) | exact .cons _ _ _ _ _ rfl (.cons _ _ _ _ _ rfl (.cons _ _ _ _ _ rfl (.cons _ _ _ _ _ rfl (.cons _ _ _ _ _ rfl (.nil _)))))) ?_
      | refine AW_field rfl tf_row0 rfl rfl rfl ?_
      | refine AW_pickT rfl rfl rfl ?_
      | refine AW_pickF rfl rfl rfl ?_
      | refine AW_skip rfl rfl rfl rfl ?_
      | refine AW_pickTg rfl rfl rfl rfl rfl rfl ?_
      | refine AW_pickFg rfl rfl rfl rfl rfl rfl ?_
      | refine AW_moveg rfl rfl rfl rfl rfl ?_
      | refine AW_notg rfl rfl rfl rfl rfl ?_
      | refine AW_eqg rfl rfl rfl rfl rfl rfl ?_
      | refine AW_eq rfl rfl rfl ?_
      | refine AW_loadg rfl rfl rfl rfl ty_num rfl rfl rfl rfl ?_
      | refine AW_callg rfl rfl rfl rfl rfl (by first | exact ct_right _ (Nat.le_of_ble_eq_true rfl) | exact ct_run _ _ _ ha hb) ?_
      | refine AW_nil (fun (h : false = true) => by cases h) ?_
      | refine AW_nil (fun (_ : true = true) => by kernel_rfl) ?_
      | refine Wp_block ?_
      | refine Wp_skip ?_
      | refine Wp_exit ?_
      | refine Wp_ret ?_
    exact ⟨.inr rfl, _, .cell _ _ _ _ _ _ _ _ _ _ _ ty_num rfl rfl rfl (.tmp _ _ _ _ rfl .nil), by rw [eucR_gcd]; rfl⟩
def lcmZ (a b : Int) : Int := (a.natAbs : Int) * ((b.natAbs / Nat.gcd a.natAbs b.natAbs : Nat) : Int)
def lcmR (a b : Int) : Raw := if a = 0 ∨ b = 0 then (false, []) else rawOf (lcmZ a b)
set_option maxRecDepth 100000 in
theorem ct_gLcm (a b : Int) (ha : lc a.natAbs ≤ 90) (hb : lc b.natAbs ≤ 90) : Ct Try.prog 30 [aZ a, aZ b] (.tup [aInt (lcmR a b), aI 0]) := by
  have hla : lc a.natAbs ≤ 1099511627776 := by omega
  have hlb : lc b.natAbs ≤ 1099511627776 := by omega
  refine ct_of_wp [.cell 4 24, .tmp 5] [(0, aZ a), (1, aZ b)] 41 Try.func30 rfl rfl rfl rfl rfl rfl rfl rfl ?_
  intro G0 w0
  by_cases h0 : a = 0
  · have hR : lcmR a b = (false, []) := by unfold lcmR; rw [if_pos (.inl h0)]
    rw [hR]
    repeat first
      | refine Wp_seq ?_
      | refine Wp_region tm_mixed ?_
      | refine AW_move rfl rfl ?_
      | refine AW_assign rfl rfl ?_
      | refine AW_load rfl ty_num rfl rfl rfl rfl ?_
      | refine AW_store ty_num rfl rfl rfl rfl rfl rfl rfl ?_
      | refine AW_extract rfl rfl rfl ?_
      | refine AW_alloc rfl tz_num ?_
      | refine AW_box rfl rfl (row := true) rfl (fun h => by cases h) rfl ?_
      | refine AW_not rfl rfl ?_
      | refine AW_build rfl tb_num rfl ?_
      | refine AW_call rfl rfl (by first | exact ct_right _ (Nat.le_of_ble_eq_true rfl) | exact ct_gzeroT _ (by assumption) | exact ct_gzeroF _ (by assumption) | exact ct_gsize _ (by assumption) | exact ct_run _ _ _ ha hb) ?_
      | refine AW_ints rfl tu_nums ti_num ti_size ti_zero rfl rfl rfl (by first | exact .cons _ _ _ _ _ rfl (.cons _ _ _ _ _ rfl (.nil _)) | exact .cons _ _ _ _ _ rfl (.cons _ _ _ _ _ rfl (.cons _ _ _ _ _ rfl (.cons _ _ _ _ _ rfl (.nil _)))) | exact .cons _ _ _ _ _ rfl (.cons _ _ _ _ _ rfl (.cons _ _ _ _ _ rfl (.nil _))) | exact .cons _ _ _ _ _ rfl (.cons _ _ _ _ _ rfl (.cons _ _ _ _ _ rfl (.cons _ _ _ _ _ rfl (.cons _ _ _ _ _ rfl (.nil _)))))) ?_
      | refine AW_field rfl tf_row0 rfl rfl rfl ?_
      | refine AW_pickT rfl rfl rfl ?_
      | refine AW_pickF rfl rfl rfl ?_
      | refine AW_skip rfl rfl rfl rfl ?_
      | refine AW_pickTg rfl rfl rfl rfl rfl rfl ?_
      | refine AW_pickFg rfl rfl rfl rfl rfl rfl ?_
      | refine AW_moveg rfl rfl rfl rfl rfl ?_
      | refine AW_notg rfl rfl rfl rfl rfl ?_
      | refine AW_eqg rfl rfl rfl rfl rfl rfl ?_
      | refine AW_eq rfl rfl rfl ?_
      | refine AW_loadg rfl rfl rfl rfl ty_num rfl rfl rfl rfl ?_
      | refine AW_callg rfl rfl rfl rfl rfl (by first | exact ct_right _ (Nat.le_of_ble_eq_true rfl) | exact ct_gzeroT _ (by assumption) | exact ct_gzeroF _ (by assumption) | exact ct_gsize _ (by assumption) | exact ct_run _ _ _ ha hb) ?_
      | refine AW_nil (fun (h : false = true) => by cases h) ?_
      | refine AW_nil (fun (_ : true = true) => by kernel_rfl) ?_
      | refine Wp_block ?_
      | refine Wp_skip ?_
      | refine Wp_exit ?_
      | refine Wp_ret ?_
    refine Wp_cond rfl (fun hc => ?_) (fun hc => ?_)
    · simp [right_raw (Nat.le_trans ha (by decide)), right_raw (Nat.le_trans hb (by decide))] at hc
    · repeat first
        | refine Wp_seq ?_
        | refine Wp_region tm_mixed ?_
        | refine AW_move rfl rfl ?_
        | refine AW_assign rfl rfl ?_
        | refine AW_load rfl ty_num rfl rfl rfl rfl ?_
        | refine AW_store ty_num rfl rfl rfl rfl rfl rfl rfl ?_
        | refine AW_extract rfl rfl rfl ?_
        | refine AW_alloc rfl tz_num ?_
        | refine AW_box rfl rfl (row := true) rfl (fun h => by cases h) rfl ?_
        | refine AW_not rfl rfl ?_
        | refine AW_build rfl tb_num rfl ?_
        | refine AW_call rfl rfl (by first | exact ct_right _ (Nat.le_of_ble_eq_true rfl) | exact ct_gzeroT _ (by assumption) | exact ct_gzeroF _ (by assumption) | exact ct_gsize _ (by assumption) | exact ct_run _ _ _ ha hb) ?_
        | refine AW_ints rfl tu_nums ti_num ti_size ti_zero rfl rfl rfl (by first | exact .cons _ _ _ _ _ rfl (.cons _ _ _ _ _ rfl (.nil _)) | exact .cons _ _ _ _ _ rfl (.cons _ _ _ _ _ rfl (.cons _ _ _ _ _ rfl (.cons _ _ _ _ _ rfl (.nil _)))) | exact .cons _ _ _ _ _ rfl (.cons _ _ _ _ _ rfl (.cons _ _ _ _ _ rfl (.nil _))) | exact .cons _ _ _ _ _ rfl (.cons _ _ _ _ _ rfl (.cons _ _ _ _ _ rfl (.cons _ _ _ _ _ rfl (.cons _ _ _ _ _ rfl (.nil _)))))) ?_
        | refine AW_field rfl tf_row0 rfl rfl rfl ?_
        | refine AW_pickT rfl rfl rfl ?_
        | refine AW_pickF rfl rfl rfl ?_
        | refine AW_skip rfl rfl rfl rfl ?_
        | refine AW_pickTg rfl rfl rfl rfl rfl rfl ?_
        | refine AW_pickFg rfl rfl rfl rfl rfl rfl ?_
        | refine AW_moveg rfl rfl rfl rfl rfl ?_
        | refine AW_notg rfl rfl rfl rfl rfl ?_
        | refine AW_eqg rfl rfl rfl rfl rfl rfl ?_
        | refine AW_eq rfl rfl rfl ?_
        | refine AW_loadg rfl rfl rfl rfl ty_num rfl rfl rfl rfl ?_
        | refine AW_callg rfl rfl rfl rfl rfl (by first | exact ct_right _ (Nat.le_of_ble_eq_true rfl) | exact ct_gzeroT _ (by assumption) | exact ct_gzeroF _ (by assumption) | exact ct_gsize _ (by assumption) | exact ct_run _ _ _ ha hb) ?_
        | refine AW_nil (fun (h : false = true) => by cases h) ?_
        | refine AW_nil (fun (_ : true = true) => by kernel_rfl) ?_
        | refine Wp_block ?_
        | refine Wp_skip ?_
        | refine Wp_exit ?_
        | refine Wp_ret ?_
      refine Wp_condT rfl ?_
      repeat first
        | refine Wp_seq ?_
        | refine Wp_region tm_mixed ?_
        | refine AW_move rfl rfl ?_
        | refine AW_assign rfl rfl ?_
        | refine AW_load rfl ty_num rfl rfl rfl rfl ?_
        | refine AW_store ty_num rfl rfl rfl rfl rfl rfl rfl ?_
        | refine AW_extract rfl rfl rfl ?_
        | refine AW_alloc rfl tz_num ?_
        | refine AW_box rfl rfl (row := true) rfl (fun h => by cases h) rfl ?_
        | refine AW_not rfl rfl ?_
        | refine AW_build rfl tb_num rfl ?_
        | refine AW_call rfl rfl (by first | exact ct_right _ (Nat.le_of_ble_eq_true rfl) | exact ct_gzeroT _ (by assumption) | exact ct_gzeroF _ (by assumption) | exact ct_gsize _ (by assumption) | exact ct_run _ _ _ ha hb) ?_
        | refine AW_ints rfl tu_nums ti_num ti_size ti_zero rfl rfl rfl (by first | exact .cons _ _ _ _ _ rfl (.cons _ _ _ _ _ rfl (.nil _)) | exact .cons _ _ _ _ _ rfl (.cons _ _ _ _ _ rfl (.cons _ _ _ _ _ rfl (.cons _ _ _ _ _ rfl (.nil _)))) | exact .cons _ _ _ _ _ rfl (.cons _ _ _ _ _ rfl (.cons _ _ _ _ _ rfl (.nil _))) | exact .cons _ _ _ _ _ rfl (.cons _ _ _ _ _ rfl (.cons _ _ _ _ _ rfl (.cons _ _ _ _ _ rfl (.cons _ _ _ _ _ rfl (.nil _)))))) ?_
        | refine AW_field rfl tf_row0 rfl rfl rfl ?_
        | refine AW_pickT rfl rfl rfl ?_
        | refine AW_pickF rfl rfl rfl ?_
        | refine AW_skip rfl rfl rfl rfl ?_
        | refine AW_pickTg rfl rfl rfl rfl rfl rfl ?_
        | refine AW_pickFg rfl rfl rfl rfl rfl rfl ?_
        | refine AW_moveg rfl rfl rfl rfl rfl ?_
        | refine AW_notg rfl rfl rfl rfl rfl ?_
        | refine AW_eqg rfl rfl rfl rfl rfl rfl ?_
        | refine AW_eq rfl rfl rfl ?_
        | refine AW_loadg rfl rfl rfl rfl ty_num rfl rfl rfl rfl ?_
        | refine AW_callg rfl rfl rfl rfl rfl (by first | exact ct_right _ (Nat.le_of_ble_eq_true rfl) | exact ct_gzeroT _ (by assumption) | exact ct_gzeroF _ (by assumption) | exact ct_gsize _ (by assumption) | exact ct_run _ _ _ ha hb) ?_
        | refine AW_nil (fun (h : false = true) => by cases h) ?_
        | refine AW_nil (fun (_ : true = true) => by kernel_rfl) ?_
        | refine Wp_block ?_
        | refine Wp_skip ?_
        | refine Wp_exit ?_
        | refine Wp_ret ?_
      exact ⟨.inr rfl, _, .cell _ _ _ _ _ _ _ _ _ _ _ ty_num rfl rfl rfl (.tmp _ _ _ _ rfl .nil), rfl⟩
  · by_cases h1 : b = 0
    · have hR : lcmR a b = (false, []) := by unfold lcmR; rw [if_pos (.inr h1)]
      rw [hR]
      repeat first
        | refine Wp_seq ?_
        | refine Wp_region tm_mixed ?_
        | refine AW_move rfl rfl ?_
        | refine AW_assign rfl rfl ?_
        | refine AW_load rfl ty_num rfl rfl rfl rfl ?_
        | refine AW_store ty_num rfl rfl rfl rfl rfl rfl rfl ?_
        | refine AW_extract rfl rfl rfl ?_
        | refine AW_alloc rfl tz_num ?_
        | refine AW_box rfl rfl (row := true) rfl (fun h => by cases h) rfl ?_
        | refine AW_not rfl rfl ?_
        | refine AW_build rfl tb_num rfl ?_
        | refine AW_call rfl rfl (by first | exact ct_right _ (Nat.le_of_ble_eq_true rfl) | exact ct_gzeroT _ (by assumption) | exact ct_gzeroF _ (by assumption) | exact ct_gsize _ (by assumption) | exact ct_run _ _ _ ha hb) ?_
        | refine AW_ints rfl tu_nums ti_num ti_size ti_zero rfl rfl rfl (by first | exact .cons _ _ _ _ _ rfl (.cons _ _ _ _ _ rfl (.nil _)) | exact .cons _ _ _ _ _ rfl (.cons _ _ _ _ _ rfl (.cons _ _ _ _ _ rfl (.cons _ _ _ _ _ rfl (.nil _)))) | exact .cons _ _ _ _ _ rfl (.cons _ _ _ _ _ rfl (.cons _ _ _ _ _ rfl (.nil _))) | exact .cons _ _ _ _ _ rfl (.cons _ _ _ _ _ rfl (.cons _ _ _ _ _ rfl (.cons _ _ _ _ _ rfl (.cons _ _ _ _ _ rfl (.nil _)))))) ?_
        | refine AW_field rfl tf_row0 rfl rfl rfl ?_
        | refine AW_pickT rfl rfl rfl ?_
        | refine AW_pickF rfl rfl rfl ?_
        | refine AW_skip rfl rfl rfl rfl ?_
        | refine AW_pickTg rfl rfl rfl rfl rfl rfl ?_
        | refine AW_pickFg rfl rfl rfl rfl rfl rfl ?_
        | refine AW_moveg rfl rfl rfl rfl rfl ?_
        | refine AW_notg rfl rfl rfl rfl rfl ?_
        | refine AW_eqg rfl rfl rfl rfl rfl rfl ?_
        | refine AW_eq rfl rfl rfl ?_
        | refine AW_loadg rfl rfl rfl rfl ty_num rfl rfl rfl rfl ?_
        | refine AW_callg rfl rfl rfl rfl rfl (by first | exact ct_right _ (Nat.le_of_ble_eq_true rfl) | exact ct_gzeroT _ (by assumption) | exact ct_gzeroF _ (by assumption) | exact ct_gsize _ (by assumption) | exact ct_run _ _ _ ha hb) ?_
        | refine AW_nil (fun (h : false = true) => by cases h) ?_
        | refine AW_nil (fun (_ : true = true) => by kernel_rfl) ?_
        | refine Wp_block ?_
        | refine Wp_skip ?_
        | refine Wp_exit ?_
        | refine Wp_ret ?_
      refine Wp_cond rfl (fun hc => ?_) (fun hc => ?_)
      · simp [right_raw (Nat.le_trans ha (by decide)), right_raw (Nat.le_trans hb (by decide))] at hc
      · repeat first
          | refine Wp_seq ?_
          | refine Wp_region tm_mixed ?_
          | refine AW_move rfl rfl ?_
          | refine AW_assign rfl rfl ?_
          | refine AW_load rfl ty_num rfl rfl rfl rfl ?_
          | refine AW_store ty_num rfl rfl rfl rfl rfl rfl rfl ?_
          | refine AW_extract rfl rfl rfl ?_
          | refine AW_alloc rfl tz_num ?_
          | refine AW_box rfl rfl (row := true) rfl (fun h => by cases h) rfl ?_
          | refine AW_not rfl rfl ?_
          | refine AW_build rfl tb_num rfl ?_
          | refine AW_call rfl rfl (by first | exact ct_right _ (Nat.le_of_ble_eq_true rfl) | exact ct_gzeroT _ (by assumption) | exact ct_gzeroF _ (by assumption) | exact ct_gsize _ (by assumption) | exact ct_run _ _ _ ha hb) ?_
          | refine AW_ints rfl tu_nums ti_num ti_size ti_zero rfl rfl rfl (by first | exact .cons _ _ _ _ _ rfl (.cons _ _ _ _ _ rfl (.nil _)) | exact .cons _ _ _ _ _ rfl (.cons _ _ _ _ _ rfl (.cons _ _ _ _ _ rfl (.cons _ _ _ _ _ rfl (.nil _)))) | exact .cons _ _ _ _ _ rfl (.cons _ _ _ _ _ rfl (.cons _ _ _ _ _ rfl (.nil _))) | exact .cons _ _ _ _ _ rfl (.cons _ _ _ _ _ rfl (.cons _ _ _ _ _ rfl (.cons _ _ _ _ _ rfl (.cons _ _ _ _ _ rfl (.nil _)))))) ?_
          | refine AW_field rfl tf_row0 rfl rfl rfl ?_
          | refine AW_pickT rfl rfl rfl ?_
          | refine AW_pickF rfl rfl rfl ?_
          | refine AW_skip rfl rfl rfl rfl ?_
          | refine AW_pickTg rfl rfl rfl rfl rfl rfl ?_
          | refine AW_pickFg rfl rfl rfl rfl rfl rfl ?_
          | refine AW_moveg rfl rfl rfl rfl rfl ?_
          | refine AW_notg rfl rfl rfl rfl rfl ?_
          | refine AW_eqg rfl rfl rfl rfl rfl rfl ?_
          | refine AW_eq rfl rfl rfl ?_
          | refine AW_loadg rfl rfl rfl rfl ty_num rfl rfl rfl rfl ?_
          | refine AW_callg rfl rfl rfl rfl rfl (by first | exact ct_right _ (Nat.le_of_ble_eq_true rfl) | exact ct_gzeroT _ (by assumption) | exact ct_gzeroF _ (by assumption) | exact ct_gsize _ (by assumption) | exact ct_run _ _ _ ha hb) ?_
          | refine AW_nil (fun (h : false = true) => by cases h) ?_
          | refine AW_nil (fun (_ : true = true) => by kernel_rfl) ?_
          | refine Wp_block ?_
          | refine Wp_skip ?_
          | refine Wp_exit ?_
          | refine Wp_ret ?_
        refine Wp_condT rfl ?_
        repeat first
          | refine Wp_seq ?_
          | refine Wp_region tm_mixed ?_
          | refine AW_move rfl rfl ?_
          | refine AW_assign rfl rfl ?_
          | refine AW_load rfl ty_num rfl rfl rfl rfl ?_
          | refine AW_store ty_num rfl rfl rfl rfl rfl rfl rfl ?_
          | refine AW_extract rfl rfl rfl ?_
          | refine AW_alloc rfl tz_num ?_
          | refine AW_box rfl rfl (row := true) rfl (fun h => by cases h) rfl ?_
          | refine AW_not rfl rfl ?_
          | refine AW_build rfl tb_num rfl ?_
          | refine AW_call rfl rfl (by first | exact ct_right _ (Nat.le_of_ble_eq_true rfl) | exact ct_gzeroT _ (by assumption) | exact ct_gzeroF _ (by assumption) | exact ct_gsize _ (by assumption) | exact ct_run _ _ _ ha hb) ?_
          | refine AW_ints rfl tu_nums ti_num ti_size ti_zero rfl rfl rfl (by first | exact .cons _ _ _ _ _ rfl (.cons _ _ _ _ _ rfl (.nil _)) | exact .cons _ _ _ _ _ rfl (.cons _ _ _ _ _ rfl (.cons _ _ _ _ _ rfl (.cons _ _ _ _ _ rfl (.nil _)))) | exact .cons _ _ _ _ _ rfl (.cons _ _ _ _ _ rfl (.cons _ _ _ _ _ rfl (.nil _))) | exact .cons _ _ _ _ _ rfl (.cons _ _ _ _ _ rfl (.cons _ _ _ _ _ rfl (.cons _ _ _ _ _ rfl (.cons _ _ _ _ _ rfl (.nil _)))))) ?_
          | refine AW_field rfl tf_row0 rfl rfl rfl ?_
          | refine AW_pickT rfl rfl rfl ?_
          | refine AW_pickF rfl rfl rfl ?_
          | refine AW_skip rfl rfl rfl rfl ?_
          | refine AW_pickTg rfl rfl rfl rfl rfl rfl ?_
          | refine AW_pickFg rfl rfl rfl rfl rfl rfl ?_
          | refine AW_moveg rfl rfl rfl rfl rfl ?_
          | refine AW_notg rfl rfl rfl rfl rfl ?_
          | refine AW_eqg rfl rfl rfl rfl rfl rfl ?_
          | refine AW_eq rfl rfl rfl ?_
          | refine AW_loadg rfl rfl rfl rfl ty_num rfl rfl rfl rfl ?_
          | refine AW_callg rfl rfl rfl rfl rfl (by first | exact ct_right _ (Nat.le_of_ble_eq_true rfl) | exact ct_gzeroT _ (by assumption) | exact ct_gzeroF _ (by assumption) | exact ct_gsize _ (by assumption) | exact ct_run _ _ _ ha hb) ?_
          | refine AW_nil (fun (h : false = true) => by cases h) ?_
          | refine AW_nil (fun (_ : true = true) => by kernel_rfl) ?_
          | refine Wp_block ?_
          | refine Wp_skip ?_
          | refine Wp_exit ?_
          | refine Wp_ret ?_
        exact ⟨.inr rfl, _, .cell _ _ _ _ _ _ _ _ _ _ _ ty_num rfl rfl rfl (.tmp _ _ _ _ rfl .nil), rfl⟩
    · have hR : lcmR a b = rawOf (lcmZ a b) := by unfold lcmR; rw [if_neg (by simp [h0, h1])]
      rw [hR]
      have k1 : lc (b.natAbs : Int).natAbs ≤ 1200 := by rw [Int.natAbs_natCast]; omega
      have k2 : lc (((eucR false a.natAbs b.natAbs).1 : Int)).natAbs ≤ 1200 := by rw [eucR_gcd, Int.natAbs_natCast]; exact Nat.le_trans (gcd_small ha hb) (by decide)
      have k3 : ((eucR false a.natAbs b.natAbs).1 : Int) ≠ 0 := by rw [eucR_gcd]; have := Nat.gcd_pos_of_pos_left b.natAbs (show 0 < a.natAbs by omega); omega
      have k4 : (b.natAbs : Int).tmod ((eucR false a.natAbs b.natAbs).1 : Int) = 0 := by
        rw [eucR_gcd]
        show ((b.natAbs % Nat.gcd a.natAbs b.natAbs : Nat) : Int) = 0
        rw [Nat.mod_eq_zero_of_dvd (Nat.gcd_dvd_right _ _)]; rfl
      have kE := ct_Exact0 _ _ k1 k2 k3 k4
      have e5 : (b.natAbs : Int).tdiv ((eucR false a.natAbs b.natAbs).1 : Int) = ((b.natAbs / Nat.gcd a.natAbs b.natAbs : Nat) : Int) := by rw [eucR_gcd]; rfl
      rw [e5] at kE
      have kM := ct_Mul0 (a.natAbs : Int) ((b.natAbs / Nat.gcd a.natAbs b.natAbs : Nat) : Int) (by rw [Int.natAbs_natCast]; omega) (by rw [Int.natAbs_natCast]; exact Nat.le_trans (lc_mono (Nat.div_le_self _ _)) (by omega)) (by
        rw [Int.natAbs_natCast, Int.natAbs_natCast]; have := lc_mono (Nat.div_le_self b.natAbs (Nat.gcd a.natAbs b.natAbs)); omega)
      repeat first
        | refine Wp_seq ?_
        | refine Wp_region tm_mixed ?_
        | refine AW_move rfl rfl ?_
        | refine AW_assign rfl rfl ?_
        | refine AW_load rfl ty_num rfl rfl rfl rfl ?_
        | refine AW_store ty_num rfl rfl rfl rfl rfl rfl rfl ?_
        | refine AW_extract rfl rfl rfl ?_
        | refine AW_alloc rfl tz_num ?_
        | refine AW_box rfl rfl (row := true) rfl (fun h => by cases h) rfl ?_
        | refine AW_not rfl rfl ?_
        | refine AW_build rfl tb_num rfl ?_
        | refine AW_call rfl rfl (by first | exact ct_right _ (Nat.le_of_ble_eq_true rfl) | exact ct_gzeroT _ (by assumption) | exact ct_gzeroF _ (by assumption) | exact ct_gsize _ (by assumption) | exact ct_run _ _ _ ha hb | exact kE | exact kM) ?_
        | refine AW_ints rfl tu_nums ti_num ti_size ti_zero rfl rfl rfl (by first | exact .cons _ _ _ _ _ rfl (.cons _ _ _ _ _ rfl (.nil _)) | exact .cons _ _ _ _ _ rfl (.cons _ _ _ _ _ rfl (.cons _ _ _ _ _ rfl (.cons _ _ _ _ _ rfl (.nil _)))) | exact .cons _ _ _ _ _ rfl (.cons _ _ _ _ _ rfl (.cons _ _ _ _ _ rfl (.nil _))) | exact .cons _ _ _ _ _ rfl (.cons _ _ _ _ _ rfl (.cons _ _ _ _ _ rfl (.cons _ _ _ _ _ rfl (.cons _ _ _ _ _ rfl (.nil _)))))) ?_
        | refine AW_field rfl tf_row0 rfl rfl rfl ?_
        | refine AW_pickT rfl rfl rfl ?_
        | refine AW_pickF rfl rfl rfl ?_
        | refine AW_skip rfl rfl rfl rfl ?_
        | refine AW_pickTg rfl rfl rfl rfl rfl rfl ?_
        | refine AW_pickFg rfl rfl rfl rfl rfl rfl ?_
        | refine AW_moveg rfl rfl rfl rfl rfl ?_
        | refine AW_notg rfl rfl rfl rfl rfl ?_
        | refine AW_eqg rfl rfl rfl rfl rfl rfl ?_
        | refine AW_eq rfl rfl rfl ?_
        | refine AW_loadg rfl rfl rfl rfl ty_num rfl rfl rfl rfl ?_
        | refine AW_callg rfl rfl rfl rfl rfl (by first | exact ct_right _ (Nat.le_of_ble_eq_true rfl) | exact ct_gzeroT _ (by assumption) | exact ct_gzeroF _ (by assumption) | exact ct_gsize _ (by assumption) | exact ct_run _ _ _ ha hb | exact kE | exact kM) ?_
        | refine AW_nil (fun (h : false = true) => by cases h) ?_
        | refine AW_nil (fun (_ : true = true) => by kernel_rfl) ?_
        | refine Wp_block ?_
        | refine Wp_skip ?_
        | refine Wp_exit ?_
        | refine Wp_ret ?_
      refine Wp_cond rfl (fun hc => ?_) (fun hc => ?_)
      · simp [right_raw (Nat.le_trans ha (by decide)), right_raw (Nat.le_trans hb (by decide))] at hc
      · repeat first
          | refine Wp_seq ?_
          | refine Wp_region tm_mixed ?_
          | refine AW_move rfl rfl ?_
          | refine AW_assign rfl rfl ?_
          | refine AW_load rfl ty_num rfl rfl rfl rfl ?_
          | refine AW_store ty_num rfl rfl rfl rfl rfl rfl rfl ?_
          | refine AW_extract rfl rfl rfl ?_
          | refine AW_alloc rfl tz_num ?_
          | refine AW_box rfl rfl (row := true) rfl (fun h => by cases h) rfl ?_
          | refine AW_not rfl rfl ?_
          | refine AW_build rfl tb_num rfl ?_
          | refine AW_call rfl rfl (by first | exact ct_right _ (Nat.le_of_ble_eq_true rfl) | exact ct_gzeroT _ (by assumption) | exact ct_gzeroF _ (by assumption) | exact ct_gsize _ (by assumption) | exact ct_run _ _ _ ha hb | exact kE | exact kM) ?_
          | refine AW_ints rfl tu_nums ti_num ti_size ti_zero rfl rfl rfl (by first | exact .cons _ _ _ _ _ rfl (.cons _ _ _ _ _ rfl (.nil _)) | exact .cons _ _ _ _ _ rfl (.cons _ _ _ _ _ rfl (.cons _ _ _ _ _ rfl (.cons _ _ _ _ _ rfl (.nil _)))) | exact .cons _ _ _ _ _ rfl (.cons _ _ _ _ _ rfl (.cons _ _ _ _ _ rfl (.nil _))) | exact .cons _ _ _ _ _ rfl (.cons _ _ _ _ _ rfl (.cons _ _ _ _ _ rfl (.cons _ _ _ _ _ rfl (.cons _ _ _ _ _ rfl (.nil _)))))) ?_
          | refine AW_field rfl tf_row0 rfl rfl rfl ?_
          | refine AW_pickT rfl rfl rfl ?_
          | refine AW_pickF rfl rfl rfl ?_
          | refine AW_skip rfl rfl rfl rfl ?_
          | refine AW_pickTg rfl rfl rfl rfl rfl rfl ?_
          | refine AW_pickFg rfl rfl rfl rfl rfl rfl ?_
          | refine AW_moveg rfl rfl rfl rfl rfl ?_
          | refine AW_notg rfl rfl rfl rfl rfl ?_
          | refine AW_eqg rfl rfl rfl rfl rfl rfl ?_
          | refine AW_eq rfl rfl rfl ?_
          | refine AW_loadg rfl rfl rfl rfl ty_num rfl rfl rfl rfl ?_
          | refine AW_callg rfl rfl rfl rfl rfl (by first | exact ct_right _ (Nat.le_of_ble_eq_true rfl) | exact ct_gzeroT _ (by assumption) | exact ct_gzeroF _ (by assumption) | exact ct_gsize _ (by assumption) | exact ct_run _ _ _ ha hb | exact kE | exact kM) ?_
          | refine AW_nil (fun (h : false = true) => by cases h) ?_
          | refine AW_nil (fun (_ : true = true) => by kernel_rfl) ?_
          | refine Wp_block ?_
          | refine Wp_skip ?_
          | refine Wp_exit ?_
          | refine Wp_ret ?_
        refine Wp_condF rfl ?_
        repeat first
          | refine Wp_seq ?_
          | refine Wp_region tm_mixed ?_
          | refine AW_move rfl rfl ?_
          | refine AW_assign rfl rfl ?_
          | refine AW_load rfl ty_num rfl rfl rfl rfl ?_
          | refine AW_store ty_num rfl rfl rfl rfl rfl rfl rfl ?_
          | refine AW_extract rfl rfl rfl ?_
          | refine AW_alloc rfl tz_num ?_
          | refine AW_box rfl rfl (row := true) rfl (fun h => by cases h) rfl ?_
          | refine AW_not rfl rfl ?_
          | refine AW_build rfl tb_num rfl ?_
          | refine AW_call rfl rfl (by first | exact ct_right _ (Nat.le_of_ble_eq_true rfl) | exact ct_gzeroT _ (by assumption) | exact ct_gzeroF _ (by assumption) | exact ct_gsize _ (by assumption) | exact ct_run _ _ _ ha hb | exact kE | exact kM) ?_
          | refine AW_ints rfl tu_nums ti_num ti_size ti_zero rfl rfl rfl (by first | exact .cons _ _ _ _ _ rfl (.cons _ _ _ _ _ rfl (.nil _)) | exact .cons _ _ _ _ _ rfl (.cons _ _ _ _ _ rfl (.cons _ _ _ _ _ rfl (.cons _ _ _ _ _ rfl (.nil _)))) | exact .cons _ _ _ _ _ rfl (.cons _ _ _ _ _ rfl (.cons _ _ _ _ _ rfl (.nil _))) | exact .cons _ _ _ _ _ rfl (.cons _ _ _ _ _ rfl (.cons _ _ _ _ _ rfl (.cons _ _ _ _ _ rfl (.cons _ _ _ _ _ rfl (.nil _)))))) ?_
          | refine AW_field rfl tf_row0 rfl rfl rfl ?_
          | refine AW_pickT rfl rfl rfl ?_
          | refine AW_pickF rfl rfl rfl ?_
          | refine AW_skip rfl rfl rfl rfl ?_
          | refine AW_pickTg rfl rfl rfl rfl rfl rfl ?_
          | refine AW_pickFg rfl rfl rfl rfl rfl rfl ?_
          | refine AW_moveg rfl rfl rfl rfl rfl ?_
          | refine AW_notg rfl rfl rfl rfl rfl ?_
          | refine AW_eqg rfl rfl rfl rfl rfl rfl ?_
          | refine AW_eq rfl rfl rfl ?_
          | refine AW_loadg rfl rfl rfl rfl ty_num rfl rfl rfl rfl ?_
          | refine AW_callg rfl rfl rfl rfl rfl (by first | exact ct_right _ (Nat.le_of_ble_eq_true rfl) | exact ct_gzeroT _ (by assumption) | exact ct_gzeroF _ (by assumption) | exact ct_gsize _ (by assumption) | exact ct_run _ _ _ ha hb | exact kE | exact kM) ?_
          | refine AW_nil (fun (h : false = true) => by cases h) ?_
          | refine AW_nil (fun (_ : true = true) => by kernel_rfl) ?_
          | refine Wp_block ?_
          | refine Wp_skip ?_
          | refine Wp_exit ?_
          | refine Wp_ret ?_
        exact ⟨.inr rfl, _, .cell _ _ _ _ _ _ _ _ _ _ _ ty_num rfl rfl rfl (.tmp _ _ _ _ rfl .nil), rfl⟩
end Go.Proofs.Ytonbhpadoplpkaa
/- The package gcd, by the abstract machine: Bezout. -/
namespace Go.Proofs.Ytonbhpadoplpkaa
open Go.RowKit Go.Deep
/-- How often a stands in the divisor, ahead of the turns. -/
def eX (a b : Int) : Int := if a < 0 then -(eucR true a.natAbs b.natAbs).2.1 else (eucR true a.natAbs b.natAbs).2.1
def eY (a b : Int) : Int := if b < 0 then -(eucR true a.natAbs b.natAbs).2.2 else (eucR true a.natAbs b.natAbs).2.2
def bM (a b : Int) : Int := ((b.natAbs / Nat.gcd a.natAbs b.natAbs : Nat) : Int)
def bT (a b : Int) : Int := if b < 0 then -(a.tdiv (gcdZ a b)) else a.tdiv (gcdZ a b)
def bzX (a b : Int) : Int := if b = 0 then Int.sign a else eX a b % bM a b
def bzY (a b : Int) : Int := if b = 0 then 0 else (gcdZ a b - a * bzX a b).tdiv b
theorem gcdZ_pos {a b : Int} (h : b ≠ 0) : 0 < gcdZ a b := by
  have := Nat.gcd_pos_of_pos_right a.natAbs (show 0 < b.natAbs by omega)
  show 0 < ((Nat.gcd a.natAbs b.natAbs : Nat) : Int)
  omega
theorem gcdZ_dvd_left (a b : Int) : gcdZ a b ∣ a := by
  show ((Nat.gcd a.natAbs b.natAbs : Nat) : Int) ∣ a
  rw [Int.ofNat_dvd_left]
  exact Nat.gcd_dvd_left _ _
theorem gcdZ_dvd_right (a b : Int) : gcdZ a b ∣ b := by
  show ((Nat.gcd a.natAbs b.natAbs : Nat) : Int) ∣ b
  rw [Int.ofNat_dvd_left]
  exact Nat.gcd_dvd_right _ _
theorem bM_mul (a b : Int) : bM a b * gcdZ a b = (b.natAbs : Int) := by
  unfold bM gcdZ
  rw [← Int.natCast_mul, Nat.div_mul_cancel (Nat.gcd_dvd_right _ _)]
theorem bM_pos {a b : Int} (h : b ≠ 0) : 0 < bM a b := by
  have h1 := bM_mul a b
  have h2 := gcdZ_pos (a := a) h
  rcases Int.lt_trichotomy (bM a b) 0 with h3 | h3 | h3
  · have := Int.mul_neg_of_neg_of_pos h3 h2; omega
  · rw [h3] at h1; simp at h1; omega
  · exact h3
theorem bT_mul {a b : Int} (h : b ≠ 0) : b * bT a b = a * bM a b := by
  have hg : gcdZ a b ≠ 0 := by have := gcdZ_pos (a := a) h; omega
  have ha : a.tdiv (gcdZ a b) * gcdZ a b = a := Int.tdiv_mul_cancel (gcdZ_dvd_left a b)
  have hm := bM_mul a b
  refine Int.eq_of_mul_eq_mul_right hg ?_
  unfold bT
  by_cases hb : b < 0
  · rw [if_pos hb, Int.mul_assoc, Int.neg_mul, ha, Int.mul_assoc, hm, Int.mul_comm a]
    rw [show (b.natAbs : Int) = -b by omega, Int.mul_neg, Int.neg_mul]
  · rw [if_neg hb, Int.mul_assoc, ha, Int.mul_assoc, hm, Int.mul_comm a]
    rw [show (b.natAbs : Int) = b by omega]
theorem signs_mul {a x : Int} : (if a < 0 then -x else x) * a = (a.natAbs : Int) * x := by
  by_cases h : a < 0
  · rw [if_pos h, show (a.natAbs : Int) = -a by omega, Int.neg_mul, Int.neg_mul, Int.mul_comm]
  · rw [if_neg h, show (a.natAbs : Int) = a by omega, Int.mul_comm]
theorem e_made (a b : Int) : a * eX a b + b * eY a b = gcdZ a b := by
  obtain ⟨x2, y2, h⟩ := eucR_row true a.natAbs b.natAbs
  have h1 := h.made0 rfl
  rw [eucR_gcd] at h1
  rw [Int.mul_comm a, Int.mul_comm b]
  unfold eX eY
  rw [signs_mul, signs_mul]
  exact h1
theorem eX_size (a b : Int) : (eX a b).natAbs ≤ max b.natAbs 1 := by
  obtain ⟨x2, y2, h⟩ := eucR_row true a.natAbs b.natAbs
  have := h.bx0
  unfold eX
  split
  · rw [Int.natAbs_neg]; exact this
  · exact this
theorem zZ_zero : zZ 0 = aInt (false, []) := by show aInt (rawOf 0) = _; rw [rawOf_zero]
theorem cmpZ_low {x y : Int} : cmpZ x y < 0 ↔ x < y := by
  rcases Int.lt_trichotomy x y with h | h | h
  · rw [cmpZ_lt h]; omega
  · subst h; rw [cmpZ_eq]; omega
  · rw [cmpZ_gt h]; omega
/-- What the turns keep. -/
structure Turn (a b x y : Int) : Prop where
  made : a * x + b * y = gcdZ a b
  rest : x % bM a b = eX a b % bM a b
  size : x.natAbs ≤ max b.natAbs 1
theorem Turn.start (a b : Int) : Turn a b (eX a b) (eY a b) := ⟨e_made a b, rfl, eX_size a b⟩
theorem bM_le (a b : Int) : (bM a b).natAbs ≤ b.natAbs := by unfold bM; rw [Int.natAbs_natCast]; exact Nat.div_le_self _ _
theorem Turn.up {a b x y : Int} (h : Turn a b x y) (hb : b ≠ 0) (hx : x < 0) : Turn a b (x + bM a b) (y - bT a b) := by
  refine ⟨?_, ?_, ?_⟩
  · rw [Int.mul_add, Int.mul_sub, bT_mul hb, ← h.made]; omega
  · rw [Int.add_emod_right]; exact h.rest
  · have := h.size; have := bM_pos (a := a) hb; have := bM_le a b; omega
theorem Turn.down {a b x y : Int} (h : Turn a b x y) (hb : b ≠ 0) (hx : bM a b ≤ x) : Turn a b (x - bM a b) (y + bT a b) := by
  refine ⟨?_, ?_, ?_⟩
  · rw [Int.mul_sub, Int.mul_add, bT_mul hb, ← h.made]; omega
  · rw [Int.sub_emod_right]; exact h.rest
  · have := h.size; have := bM_pos (a := a) hb; omega
theorem Turn.last {a b x y : Int} (h : Turn a b x y) (hb : b ≠ 0) (h0 : 0 ≤ x) (h1 : x < bM a b) : x = bzX a b ∧ y = bzY a b := by
  have e : x = bzX a b := by
    unfold bzX
    rw [if_neg hb, ← h.rest, Int.emod_eq_of_lt h0 h1]
  refine ⟨e, ?_⟩
  unfold bzY
  rw [if_neg hb, ← e]
  have h2 : gcdZ a b - a * x = y * b := by rw [← h.made, Int.mul_comm y]; omega
  rw [h2, Int.mul_tdiv_cancel _ hb]
theorem Turn.sizes {a b x y : Int} (h : Turn a b x y) (hb : b ≠ 0) (ha : lc a.natAbs ≤ 90) (hb' : lc b.natAbs ≤ 90) : lc x.natAbs ≤ 90 ∧ lc y.natAbs ≤ 1000 := by
  have hbn : 1 ≤ b.natAbs := by omega
  have hx : x.natAbs ≤ b.natAbs := by have := h.size; omega
  refine ⟨Nat.le_trans (lc_mono hx) hb', ?_⟩
  have h1 : b * y = gcdZ a b - a * x := by have := h.made; omega
  have h2 : b.natAbs * y.natAbs = (gcdZ a b - a * x).natAbs := by rw [← Int.natAbs_mul, h1]
  have h3 : (gcdZ a b - a * x).natAbs ≤ (gcdZ a b).natAbs + (a * x).natAbs := by omega
  have h4 : y.natAbs ≤ b.natAbs * y.natAbs := Nat.le_mul_of_pos_left _ hbn
  have h5 : y.natAbs ≤ (gcdZ a b).natAbs + (a * x).natAbs := by omega
  have h6 : lc (gcdZ a b).natAbs ≤ 90 := by unfold gcdZ; rw [Int.natAbs_natCast]; exact gcd_small ha hb'
  have h7 : lc (a * x).natAbs ≤ 180 := by rw [Int.natAbs_mul]; have := lc_mul a.natAbs x.natAbs; have := lc_mono hx; omega
  have h8 := lc_add (gcdZ a b).natAbs (a * x).natAbs
  have h9 := lc_mono h5
  omega
theorem bT_lc {a b : Int} (ha : lc a.natAbs ≤ 90) : lc (bT a b).natAbs ≤ 90 := by
  have : (bT a b).natAbs ≤ a.natAbs := by
    unfold bT
    split
    · rw [Int.natAbs_neg, Int.natAbs_tdiv]; exact Nat.div_le_self _ _
    · rw [Int.natAbs_tdiv]; exact Nat.div_le_self _ _
  exact Nat.le_trans (lc_mono this) ha
set_option maxHeartbeats 1000000 in
set_option maxRecDepth 100000 in
theorem ct_gBezout (a b : Int) (ha : lc a.natAbs ≤ 90) (hb : lc b.natAbs ≤ 90) : Ct Try.prog 53 [aZ a, aZ b] (.tup [zZ (gcdZ a b), zZ (bzX a b), zZ (bzY a b), aI 0]) := by
  have hla : lc a.natAbs ≤ 1099511627776 := by omega
  have hlb : lc b.natAbs ≤ 1099511627776 := by omega
  have hgz : ((eucR true a.natAbs b.natAbs).1 : Int) = gcdZ a b := by rw [eucR_gcd]
  have hx0 : lc (eucR true a.natAbs b.natAbs).2.1.natAbs ≤ 4096 := by obtain ⟨_, _, h⟩ := eucR_row true a.natAbs b.natAbs; exact Nat.le_trans (h.small ha hb).2.2.1 (by decide)
  have hy0 : lc (eucR true a.natAbs b.natAbs).2.2.natAbs ≤ 4096 := by obtain ⟨_, _, h⟩ := eucR_row true a.natAbs b.natAbs; exact Nat.le_trans (h.small ha hb).2.2.2.1 (by decide)
  refine ct_of_wp [.cell 4 24, .cell 5 24, .cell 6 24, .tmp 7] [(0, aZ a), (1, aZ b)] 124 Try.func53 rfl rfl rfl rfl rfl rfl rfl rfl ?_
  intro G0 w0
  repeat first
    | refine Wp_seq ?_
    | refine Wp_region tm_mixed ?_
    | refine AW_move rfl rfl ?_
    | refine AW_assign rfl rfl ?_
    | refine AW_load rfl ty_num rfl rfl rfl rfl ?_
    | refine AW_load rfl ty_row rfl rfl rfl rfl ?_
    | refine AW_store ty_num rfl rfl rfl rfl rfl rfl rfl ?_
    | refine AW_store ty_row rfl rfl rfl rfl rfl rfl rfl ?_
    | refine AW_extract rfl rfl rfl ?_
    | refine AW_alloc rfl tz_num ?_
    | refine AW_alloc rfl tz_row ?_
    | refine AW_box rfl rfl (row := true) rfl (fun h => by cases h) rfl ?_
    | refine AW_not rfl rfl ?_
    | refine AW_build rfl tb_num rfl ?_
    | refine AW_build rfl tb_row rfl ?_
    | refine AW_call rfl rfl (by first | exact ct_right _ (Nat.le_of_ble_eq_true rfl) | exact ct_gzeroT _ (by assumption) | exact ct_gzeroF _ (by assumption) | exact ct_gsize _ (by assumption) | exact ct_run _ _ _ ha hb) ?_
    | refine AW_ints rfl tu_nums ti_num ti_size ti_zero rfl rfl rfl (by first | exact .cons _ _ _ _ _ rfl (.cons _ _ _ _ _ rfl (.nil _)) | exact .cons _ _ _ _ _ rfl (.cons _ _ _ _ _ rfl (.cons _ _ _ _ _ rfl (.cons _ _ _ _ _ rfl (.nil _)))) | exact .cons _ _ _ _ _ rfl (.cons _ _ _ _ _ rfl (.cons _ _ _ _ _ rfl (.nil _))) | exact .cons _ _ _ _ _ rfl (.cons _ _ _ _ _ rfl (.cons _ _ _ _ _ rfl (.cons _ _ _ _ _ rfl (.cons _ _ _ _ _ rfl (.nil _)))))) ?_
    | refine AW_load rfl ty_bool rfl rfl rfl rfl ?_ | refine AW_fieldAddr rfl tf_neg rfl rfl ?_ | refine AW_fieldAddr rfl tf_row0 rfl rfl ?_ | refine AW_fieldAddr rfl tf_row1 rfl rfl ?_ | refine AW_arrayAt rfl Try.underlying73 ts_num rfl rfl rfl rfl ?_
    | refine AW_pickT rfl rfl rfl ?_
    | refine AW_pickF rfl rfl rfl ?_
    | refine AW_skip rfl rfl rfl rfl ?_
    | refine AW_pickTg rfl rfl rfl rfl rfl rfl ?_
    | refine AW_pickFg rfl rfl rfl rfl rfl rfl ?_
    | refine AW_moveg rfl rfl rfl rfl rfl ?_
    | refine AW_notg rfl rfl rfl rfl rfl ?_
    | refine AW_eqg rfl rfl rfl rfl rfl rfl ?_
    | refine AW_eq rfl rfl rfl ?_
    | refine AW_loadg rfl rfl rfl rfl ty_num rfl rfl rfl rfl ?_
    | refine AW_loadg rfl rfl rfl rfl ty_row rfl rfl rfl rfl ?_
    | refine AW_callg rfl rfl rfl rfl rfl (by first | exact ct_right _ (Nat.le_of_ble_eq_true rfl) | exact ct_gzeroT _ (by assumption) | exact ct_gzeroF _ (by assumption) | exact ct_gsize _ (by assumption) | exact ct_run _ _ _ ha hb) ?_
    | refine AW_nil (fun (h : false = true) => by cases h) ?_
    | refine AW_nil (fun (_ : true = true) => by kernel_rfl) ?_
    | refine Wp_block ?_
    | refine Wp_skip ?_
    | refine Wp_exit ?_
    | refine Wp_ret ?_
  refine Wp_cond rfl (fun hc => ?_) (fun hc => ?_)
  · simp [right_raw (Nat.le_trans ha (by decide)), right_raw (Nat.le_trans hb (by decide))] at hc
  · repeat first
      | refine Wp_seq ?_
      | refine Wp_region tm_mixed ?_
      | refine AW_move rfl rfl ?_
      | refine AW_assign rfl rfl ?_
      | refine AW_load rfl ty_num rfl rfl rfl rfl ?_
      | refine AW_load rfl ty_row rfl rfl rfl rfl ?_
      | refine AW_store ty_num rfl rfl rfl rfl rfl rfl rfl ?_
      | refine AW_store ty_row rfl rfl rfl rfl rfl rfl rfl ?_
      | refine AW_extract rfl rfl rfl ?_
      | refine AW_alloc rfl tz_num ?_
      | refine AW_alloc rfl tz_row ?_
      | refine AW_box rfl rfl (row := true) rfl (fun h => by cases h) rfl ?_
      | refine AW_not rfl rfl ?_
      | refine AW_build rfl tb_num rfl ?_
      | refine AW_build rfl tb_row rfl ?_
      | refine AW_call rfl rfl (by first | exact ct_right _ (Nat.le_of_ble_eq_true rfl) | exact ct_gzeroT _ (by assumption) | exact ct_gzeroF _ (by assumption) | exact ct_gsize _ (by assumption) | exact ct_run _ _ _ ha hb) ?_
      | refine AW_ints rfl tu_nums ti_num ti_size ti_zero rfl rfl rfl (by first | exact .cons _ _ _ _ _ rfl (.cons _ _ _ _ _ rfl (.nil _)) | exact .cons _ _ _ _ _ rfl (.cons _ _ _ _ _ rfl (.cons _ _ _ _ _ rfl (.cons _ _ _ _ _ rfl (.nil _)))) | exact .cons _ _ _ _ _ rfl (.cons _ _ _ _ _ rfl (.cons _ _ _ _ _ rfl (.nil _))) | exact .cons _ _ _ _ _ rfl (.cons _ _ _ _ _ rfl (.cons _ _ _ _ _ rfl (.cons _ _ _ _ _ rfl (.cons _ _ _ _ _ rfl (.nil _)))))) ?_
      | refine AW_load rfl ty_bool rfl rfl rfl rfl ?_ | refine AW_fieldAddr rfl tf_neg rfl rfl ?_ | refine AW_fieldAddr rfl tf_row0 rfl rfl ?_ | refine AW_fieldAddr rfl tf_row1 rfl rfl ?_ | refine AW_arrayAt rfl Try.underlying73 ts_num rfl rfl rfl rfl ?_
      | refine AW_pickT rfl rfl rfl ?_
      | refine AW_pickF rfl rfl rfl ?_
      | refine AW_skip rfl rfl rfl rfl ?_
      | refine AW_pickTg rfl rfl rfl rfl rfl rfl ?_
      | refine AW_pickFg rfl rfl rfl rfl rfl rfl ?_
      | refine AW_moveg rfl rfl rfl rfl rfl ?_
      | refine AW_notg rfl rfl rfl rfl rfl ?_
      | refine AW_eqg rfl rfl rfl rfl rfl rfl ?_
      | refine AW_eq rfl rfl rfl ?_
      | refine AW_loadg rfl rfl rfl rfl ty_num rfl rfl rfl rfl ?_
      | refine AW_loadg rfl rfl rfl rfl ty_row rfl rfl rfl rfl ?_
      | refine AW_callg rfl rfl rfl rfl rfl (by first | exact ct_right _ (Nat.le_of_ble_eq_true rfl) | exact ct_gzeroT _ (by assumption) | exact ct_gzeroF _ (by assumption) | exact ct_gsize _ (by assumption) | exact ct_run _ _ _ ha hb) ?_
      | refine AW_nil (fun (h : false = true) => by cases h) ?_
      | refine AW_nil (fun (_ : true = true) => by kernel_rfl) ?_
      | refine Wp_block ?_
      | refine Wp_skip ?_
      | refine Wp_exit ?_
      | refine Wp_ret ?_
    refine Wp_to (fun s' => Le s' ⟨[(2, .val (.one (.ptr 0 0))), (3, .val (.one (.ptr 1 0))), (4, .val (.one (.ptr 2 0))), (5, .val (.one (.ptr 3 0))), (6, .val (.one (.ptr 4 0))), (9, .val (.one (.ptr 6 0))), (10, .val (.one (.ptr 7 0))), (11, .val (.one (.ptr 8 0)))],
      [(0, 24, [.b (rawOf a).1, .st (magP (rawOf a).2)]), (1, 24, [.b (rawOf b).1, .st (magP (rawOf b).2)]), (2, 24, [.b false, .st (magP [])]), (3, 24, [.b false, .st (magP [])]), (4, 24, [.b false, .st (magP [])]),
       (6, 24, [.b (rawOf (gcdZ a b)).1, .st (magP (rawOf (gcdZ a b)).2)]), (7, 24, [.b (rawOf (eX a b)).1, .st (magP (rawOf (eX a b)).2)]), (8, 24, [.b (rawOf (eucR true a.natAbs b.natAbs).2.2).1, .st (magP (rawOf (eucR true a.natAbs b.natAbs).2.2).2)])], 9⟩) ?_ ?_
    · refine Wp_cond rfl (fun hc => ?_) (fun hc => ?_)
      · have hX : eX a b = -(eucR true a.natAbs b.natAbs).2.1 := by unfold eX; rw [if_pos (of_decide_eq_true hc)]
        rw [← hgz, hX]
        repeat first
          | refine Wp_seq ?_
          | refine Wp_region tm_mixed ?_
          | refine AW_move rfl rfl ?_
          | refine AW_assign rfl rfl ?_
          | refine AW_load rfl ty_num rfl rfl rfl rfl ?_
          | refine AW_load rfl ty_row rfl rfl rfl rfl ?_
          | refine AW_store ty_num rfl rfl rfl rfl rfl rfl rfl ?_
          | refine AW_store ty_row rfl rfl rfl rfl rfl rfl rfl ?_
          | refine AW_extract rfl rfl rfl ?_
          | refine AW_alloc rfl tz_num ?_
          | refine AW_alloc rfl tz_row ?_
          | refine AW_box rfl rfl (row := true) rfl (fun h => by cases h) rfl ?_
          | refine AW_not rfl rfl ?_
          | refine AW_build rfl tb_num rfl ?_
          | refine AW_build rfl tb_row rfl ?_
          | refine AW_call rfl rfl (by first | exact ct_right _ (Nat.le_of_ble_eq_true rfl) | exact ct_gzeroT _ (by assumption) | exact ct_gzeroF _ (by assumption) | exact ct_gsize _ (by assumption) | exact ct_run _ _ _ ha hb | exact ct_Neg _ hx0) ?_
          | refine AW_ints rfl tu_nums ti_num ti_size ti_zero rfl rfl rfl (by first | exact .cons _ _ _ _ _ rfl (.cons _ _ _ _ _ rfl (.nil _)) | exact .cons _ _ _ _ _ rfl (.cons _ _ _ _ _ rfl (.cons _ _ _ _ _ rfl (.cons _ _ _ _ _ rfl (.nil _)))) | exact .cons _ _ _ _ _ rfl (.cons _ _ _ _ _ rfl (.cons _ _ _ _ _ rfl (.nil _))) | exact .cons _ _ _ _ _ rfl (.cons _ _ _ _ _ rfl (.cons _ _ _ _ _ rfl (.cons _ _ _ _ _ rfl (.cons _ _ _ _ _ rfl (.nil _)))))) ?_
          | refine AW_load rfl ty_bool rfl rfl rfl rfl ?_ | refine AW_fieldAddr rfl tf_neg rfl rfl ?_ | refine AW_fieldAddr rfl tf_row0 rfl rfl ?_ | refine AW_fieldAddr rfl tf_row1 rfl rfl ?_ | refine AW_arrayAt rfl Try.underlying73 ts_num rfl rfl rfl rfl ?_
          | refine AW_pickT rfl rfl rfl ?_
          | refine AW_pickF rfl rfl rfl ?_
          | refine AW_skip rfl rfl rfl rfl ?_
          | refine AW_pickTg rfl rfl rfl rfl rfl rfl ?_
          | refine AW_pickFg rfl rfl rfl rfl rfl rfl ?_
          | refine AW_moveg rfl rfl rfl rfl rfl ?_
          | refine AW_notg rfl rfl rfl rfl rfl ?_
          | refine AW_eqg rfl rfl rfl rfl rfl rfl ?_
          | refine AW_eq rfl rfl rfl ?_
          | refine AW_loadg rfl rfl rfl rfl ty_num rfl rfl rfl rfl ?_
          | refine AW_loadg rfl rfl rfl rfl ty_row rfl rfl rfl rfl ?_
          | refine AW_callg rfl rfl rfl rfl rfl (by first | exact ct_right _ (Nat.le_of_ble_eq_true rfl) | exact ct_gzeroT _ (by assumption) | exact ct_gzeroF _ (by assumption) | exact ct_gsize _ (by assumption) | exact ct_run _ _ _ ha hb | exact ct_Neg _ hx0) ?_
          | refine AW_nil (fun (h : false = true) => by cases h) ?_
          | refine AW_nil (fun (_ : true = true) => by kernel_rfl) ?_
          | refine Wp_block ?_
          | refine Wp_skip ?_
          | refine Wp_exit ?_
          | refine Wp_ret ?_
        exact le_of ⟨rfl, rfl, rfl, rfl, rfl, rfl, rfl, rfl, trivial⟩ ⟨rfl, rfl, rfl, rfl, rfl, rfl, rfl, rfl, trivial⟩ rfl
      · have hX : eX a b = (eucR true a.natAbs b.natAbs).2.1 := by unfold eX; rw [if_neg (of_decide_eq_false hc)]
        rw [← hgz, hX]
        repeat first
          | refine Wp_seq ?_
          | refine Wp_region tm_mixed ?_
          | refine AW_move rfl rfl ?_
          | refine AW_assign rfl rfl ?_
          | refine AW_load rfl ty_num rfl rfl rfl rfl ?_
          | refine AW_load rfl ty_row rfl rfl rfl rfl ?_
          | refine AW_store ty_num rfl rfl rfl rfl rfl rfl rfl ?_
          | refine AW_store ty_row rfl rfl rfl rfl rfl rfl rfl ?_
          | refine AW_extract rfl rfl rfl ?_
          | refine AW_alloc rfl tz_num ?_
          | refine AW_alloc rfl tz_row ?_
          | refine AW_box rfl rfl (row := true) rfl (fun h => by cases h) rfl ?_
          | refine AW_not rfl rfl ?_
          | refine AW_build rfl tb_num rfl ?_
          | refine AW_build rfl tb_row rfl ?_
          | refine AW_call rfl rfl (by first | exact ct_right _ (Nat.le_of_ble_eq_true rfl) | exact ct_gzeroT _ (by assumption) | exact ct_gzeroF _ (by assumption) | exact ct_gsize _ (by assumption) | exact ct_run _ _ _ ha hb) ?_
          | refine AW_ints rfl tu_nums ti_num ti_size ti_zero rfl rfl rfl (by first | exact .cons _ _ _ _ _ rfl (.cons _ _ _ _ _ rfl (.nil _)) | exact .cons _ _ _ _ _ rfl (.cons _ _ _ _ _ rfl (.cons _ _ _ _ _ rfl (.cons _ _ _ _ _ rfl (.nil _)))) | exact .cons _ _ _ _ _ rfl (.cons _ _ _ _ _ rfl (.cons _ _ _ _ _ rfl (.nil _))) | exact .cons _ _ _ _ _ rfl (.cons _ _ _ _ _ rfl (.cons _ _ _ _ _ rfl (.cons _ _ _ _ _ rfl (.cons _ _ _ _ _ rfl (.nil _)))))) ?_
          | refine AW_load rfl ty_bool rfl rfl rfl rfl ?_ | refine AW_fieldAddr rfl tf_neg rfl rfl ?_ | refine AW_fieldAddr rfl tf_row0 rfl rfl ?_ | refine AW_fieldAddr rfl tf_row1 rfl rfl ?_ | refine AW_arrayAt rfl Try.underlying73 ts_num rfl rfl rfl rfl ?_
          | refine AW_pickT rfl rfl rfl ?_
          | refine AW_pickF rfl rfl rfl ?_
          | refine AW_skip rfl rfl rfl rfl ?_
          | refine AW_pickTg rfl rfl rfl rfl rfl rfl ?_
          | refine AW_pickFg rfl rfl rfl rfl rfl rfl ?_
          | refine AW_moveg rfl rfl rfl rfl rfl ?_
          | refine AW_notg rfl rfl rfl rfl rfl ?_
          | refine AW_eqg rfl rfl rfl rfl rfl rfl ?_
          | refine AW_eq rfl rfl rfl ?_
          | refine AW_loadg rfl rfl rfl rfl ty_num rfl rfl rfl rfl ?_
          | refine AW_loadg rfl rfl rfl rfl ty_row rfl rfl rfl rfl ?_
          | refine AW_callg rfl rfl rfl rfl rfl (by first | exact ct_right _ (Nat.le_of_ble_eq_true rfl) | exact ct_gzeroT _ (by assumption) | exact ct_gzeroF _ (by assumption) | exact ct_gsize _ (by assumption) | exact ct_run _ _ _ ha hb) ?_
          | refine AW_nil (fun (h : false = true) => by cases h) ?_
          | refine AW_nil (fun (_ : true = true) => by kernel_rfl) ?_
          | refine Wp_block ?_
          | refine Wp_skip ?_
          | refine Wp_exit ?_
          | refine Wp_ret ?_
        exact le_of ⟨rfl, rfl, rfl, rfl, rfl, rfl, rfl, rfl, trivial⟩ ⟨rfl, rfl, rfl, rfl, rfl, rfl, rfl, rfl, trivial⟩ rfl
    · intro s' hs'
      refine Wp_le hs' ?_
      repeat first
        | refine Wp_seq ?_
        | refine Wp_region tm_mixed ?_
        | refine AW_move rfl rfl ?_
        | refine AW_assign rfl rfl ?_
        | refine AW_load rfl ty_num rfl rfl rfl rfl ?_
        | refine AW_load rfl ty_row rfl rfl rfl rfl ?_
        | refine AW_store ty_num rfl rfl rfl rfl rfl rfl rfl ?_
        | refine AW_store ty_row rfl rfl rfl rfl rfl rfl rfl ?_
        | refine AW_extract rfl rfl rfl ?_
        | refine AW_alloc rfl tz_num ?_
        | refine AW_alloc rfl tz_row ?_
        | refine AW_box rfl rfl (row := true) rfl (fun h => by cases h) rfl ?_
        | refine AW_not rfl rfl ?_
        | refine AW_build rfl tb_num rfl ?_
        | refine AW_build rfl tb_row rfl ?_
        | refine AW_call rfl rfl (by first | exact ct_right _ (Nat.le_of_ble_eq_true rfl) | exact ct_gzeroT _ (by assumption) | exact ct_gzeroF _ (by assumption) | exact ct_gsize _ (by assumption) | exact ct_run _ _ _ ha hb) ?_
        | refine AW_ints rfl tu_nums ti_num ti_size ti_zero rfl rfl rfl (by first | exact .cons _ _ _ _ _ rfl (.cons _ _ _ _ _ rfl (.nil _)) | exact .cons _ _ _ _ _ rfl (.cons _ _ _ _ _ rfl (.cons _ _ _ _ _ rfl (.cons _ _ _ _ _ rfl (.nil _)))) | exact .cons _ _ _ _ _ rfl (.cons _ _ _ _ _ rfl (.cons _ _ _ _ _ rfl (.nil _))) | exact .cons _ _ _ _ _ rfl (.cons _ _ _ _ _ rfl (.cons _ _ _ _ _ rfl (.cons _ _ _ _ _ rfl (.cons _ _ _ _ _ rfl (.nil _)))))) ?_
        | refine AW_load rfl ty_bool rfl rfl rfl rfl ?_ | refine AW_fieldAddr rfl tf_neg rfl rfl ?_ | refine AW_fieldAddr rfl tf_row0 rfl rfl ?_ | refine AW_fieldAddr rfl tf_row1 rfl rfl ?_ | refine AW_arrayAt rfl Try.underlying73 ts_num rfl rfl rfl rfl ?_
        | refine AW_pickT rfl rfl rfl ?_
        | refine AW_pickF rfl rfl rfl ?_
        | refine AW_skip rfl rfl rfl rfl ?_
        | refine AW_pickTg rfl rfl rfl rfl rfl rfl ?_
        | refine AW_pickFg rfl rfl rfl rfl rfl rfl ?_
        | refine AW_moveg rfl rfl rfl rfl rfl ?_
        | refine AW_notg rfl rfl rfl rfl rfl ?_
        | refine AW_eqg rfl rfl rfl rfl rfl rfl ?_
        | refine AW_eq rfl rfl rfl ?_
        | refine AW_loadg rfl rfl rfl rfl ty_num rfl rfl rfl rfl ?_
        | refine AW_loadg rfl rfl rfl rfl ty_row rfl rfl rfl rfl ?_
        | refine AW_callg rfl rfl rfl rfl rfl (by first | exact ct_right _ (Nat.le_of_ble_eq_true rfl) | exact ct_gzeroT _ (by assumption) | exact ct_gzeroF _ (by assumption) | exact ct_gsize _ (by assumption) | exact ct_run _ _ _ ha hb) ?_
        | refine AW_nil (fun (h : false = true) => by cases h) ?_
        | refine AW_nil (fun (_ : true = true) => by kernel_rfl) ?_
        | refine Wp_block ?_
        | refine Wp_skip ?_
        | refine Wp_exit ?_
        | refine Wp_ret ?_
      refine Wp_to (fun s' => Le s' ⟨[(2, .val (.one (.ptr 0 0))), (3, .val (.one (.ptr 1 0))), (4, .val (.one (.ptr 2 0))), (5, .val (.one (.ptr 3 0))), (6, .val (.one (.ptr 4 0))), (9, .val (.one (.ptr 6 0))), (10, .val (.one (.ptr 7 0))), (11, .val (.one (.ptr 8 0)))],
      [(0, 24, [.b (rawOf a).1, .st (magP (rawOf a).2)]), (1, 24, [.b (rawOf b).1, .st (magP (rawOf b).2)]), (2, 24, [.b false, .st (magP [])]), (3, 24, [.b false, .st (magP [])]), (4, 24, [.b false, .st (magP [])]),
       (6, 24, [.b (rawOf (gcdZ a b)).1, .st (magP (rawOf (gcdZ a b)).2)]), (7, 24, [.b (rawOf (eX a b)).1, .st (magP (rawOf (eX a b)).2)]), (8, 24, [.b (rawOf (eY a b)).1, .st (magP (rawOf (eY a b)).2)])], 9⟩) ?_ ?_
      · refine Wp_cond rfl (fun hc => ?_) (fun hc => ?_)
        · have hY : eY a b = -(eucR true a.natAbs b.natAbs).2.2 := by unfold eY; rw [if_pos (of_decide_eq_true hc)]
          rw [hY]
          repeat first
            | refine Wp_seq ?_
            | refine Wp_region tm_mixed ?_
            | refine AW_move rfl rfl ?_
            | refine AW_assign rfl rfl ?_
            | refine AW_load rfl ty_num rfl rfl rfl rfl ?_
            | refine AW_load rfl ty_row rfl rfl rfl rfl ?_
            | refine AW_store ty_num rfl rfl rfl rfl rfl rfl rfl ?_
            | refine AW_store ty_row rfl rfl rfl rfl rfl rfl rfl ?_
            | refine AW_extract rfl rfl rfl ?_
            | refine AW_alloc rfl tz_num ?_
            | refine AW_alloc rfl tz_row ?_
            | refine AW_box rfl rfl (row := true) rfl (fun h => by cases h) rfl ?_
            | refine AW_not rfl rfl ?_
            | refine AW_build rfl tb_num rfl ?_
            | refine AW_build rfl tb_row rfl ?_
            | refine AW_call rfl rfl (by first | exact ct_right _ (Nat.le_of_ble_eq_true rfl) | exact ct_gzeroT _ (by assumption) | exact ct_gzeroF _ (by assumption) | exact ct_gsize _ (by assumption) | exact ct_run _ _ _ ha hb | exact ct_Neg _ hy0) ?_
            | refine AW_ints rfl tu_nums ti_num ti_size ti_zero rfl rfl rfl (by first | exact .cons _ _ _ _ _ rfl (.cons _ _ _ _ _ rfl (.nil _)) | exact .cons _ _ _ _ _ rfl (.cons _ _ _ _ _ rfl (.cons _ _ _ _ _ rfl (.cons _ _ _ _ _ rfl (.nil _)))) | exact .cons _ _ _ _ _ rfl (.cons _ _ _ _ _ rfl (.cons _ _ _ _ _ rfl (.nil _))) | exact .cons _ _ _ _ _ rfl (.cons _ _ _ _ _ rfl (.cons _ _ _ _ _ rfl (.cons _ _ _ _ _ rfl (.cons _ _ _ _ _ rfl (.nil _)))))) ?_
            | refine AW_load rfl ty_bool rfl rfl rfl rfl ?_ | refine AW_fieldAddr rfl tf_neg rfl rfl ?_ | refine AW_fieldAddr rfl tf_row0 rfl rfl ?_ | refine AW_fieldAddr rfl tf_row1 rfl rfl ?_ | refine AW_arrayAt rfl Try.underlying73 ts_num rfl rfl rfl rfl ?_
            | refine AW_pickT rfl rfl rfl ?_
            | refine AW_pickF rfl rfl rfl ?_
            | refine AW_skip rfl rfl rfl rfl ?_
            | refine AW_pickTg rfl rfl rfl rfl rfl rfl ?_
            | refine AW_pickFg rfl rfl rfl rfl rfl rfl ?_
            | refine AW_moveg rfl rfl rfl rfl rfl ?_
            | refine AW_notg rfl rfl rfl rfl rfl ?_
            | refine AW_eqg rfl rfl rfl rfl rfl rfl ?_
            | refine AW_eq rfl rfl rfl ?_
            | refine AW_loadg rfl rfl rfl rfl ty_num rfl rfl rfl rfl ?_
            | refine AW_loadg rfl rfl rfl rfl ty_row rfl rfl rfl rfl ?_
            | refine AW_callg rfl rfl rfl rfl rfl (by first | exact ct_right _ (Nat.le_of_ble_eq_true rfl) | exact ct_gzeroT _ (by assumption) | exact ct_gzeroF _ (by assumption) | exact ct_gsize _ (by assumption) | exact ct_run _ _ _ ha hb | exact ct_Neg _ hy0) ?_
            | refine AW_nil (fun (h : false = true) => by cases h) ?_
            | refine AW_nil (fun (_ : true = true) => by kernel_rfl) ?_
            | refine Wp_block ?_
            | refine Wp_skip ?_
            | refine Wp_exit ?_
            | refine Wp_ret ?_
          exact le_of ⟨rfl, rfl, rfl, rfl, rfl, rfl, rfl, rfl, trivial⟩ ⟨rfl, rfl, rfl, rfl, rfl, rfl, rfl, rfl, trivial⟩ rfl
        · have hY : eY a b = (eucR true a.natAbs b.natAbs).2.2 := by unfold eY; rw [if_neg (of_decide_eq_false hc)]
          rw [hY]
          repeat first
            | refine Wp_seq ?_
            | refine Wp_region tm_mixed ?_
            | refine AW_move rfl rfl ?_
            | refine AW_assign rfl rfl ?_
            | refine AW_load rfl ty_num rfl rfl rfl rfl ?_
            | refine AW_load rfl ty_row rfl rfl rfl rfl ?_
            | refine AW_store ty_num rfl rfl rfl rfl rfl rfl rfl ?_
            | refine AW_store ty_row rfl rfl rfl rfl rfl rfl rfl ?_
            | refine AW_extract rfl rfl rfl ?_
            | refine AW_alloc rfl tz_num ?_
            | refine AW_alloc rfl tz_row ?_
            | refine AW_box rfl rfl (row := true) rfl (fun h => by cases h) rfl ?_
            | refine AW_not rfl rfl ?_
            | refine AW_build rfl tb_num rfl ?_
            | refine AW_build rfl tb_row rfl ?_
            | refine AW_call rfl rfl (by first | exact ct_right _ (Nat.le_of_ble_eq_true rfl) | exact ct_gzeroT _ (by assumption) | exact ct_gzeroF _ (by assumption) | exact ct_gsize _ (by assumption) | exact ct_run _ _ _ ha hb) ?_
            | refine AW_ints rfl tu_nums ti_num ti_size ti_zero rfl rfl rfl (by first | exact .cons _ _ _ _ _ rfl (.cons _ _ _ _ _ rfl (.nil _)) | exact .cons _ _ _ _ _ rfl (.cons _ _ _ _ _ rfl (.cons _ _ _ _ _ rfl (.cons _ _ _ _ _ rfl (.nil _)))) | exact .cons _ _ _ _ _ rfl (.cons _ _ _ _ _ rfl (.cons _ _ _ _ _ rfl (.nil _))) | exact .cons _ _ _ _ _ rfl (.cons _ _ _ _ _ rfl (.cons _ _ _ _ _ rfl (.cons _ _ _ _ _ rfl (.cons _ _ _ _ _ rfl (.nil _)))))) ?_
            | refine AW_load rfl ty_bool rfl rfl rfl rfl ?_ | refine AW_fieldAddr rfl tf_neg rfl rfl ?_ | refine AW_fieldAddr rfl tf_row0 rfl rfl ?_ | refine AW_fieldAddr rfl tf_row1 rfl rfl ?_ | refine AW_arrayAt rfl Try.underlying73 ts_num rfl rfl rfl rfl ?_
            | refine AW_pickT rfl rfl rfl ?_
            | refine AW_pickF rfl rfl rfl ?_
            | refine AW_skip rfl rfl rfl rfl ?_
            | refine AW_pickTg rfl rfl rfl rfl rfl rfl ?_
            | refine AW_pickFg rfl rfl rfl rfl rfl rfl ?_
            | refine AW_moveg rfl rfl rfl rfl rfl ?_
            | refine AW_notg rfl rfl rfl rfl rfl ?_
            | refine AW_eqg rfl rfl rfl rfl rfl rfl ?_
            | refine AW_eq rfl rfl rfl ?_
            | refine AW_loadg rfl rfl rfl rfl ty_num rfl rfl rfl rfl ?_
            | refine AW_loadg rfl rfl rfl rfl ty_row rfl rfl rfl rfl ?_
            | refine AW_callg rfl rfl rfl rfl rfl (by first | exact ct_right _ (Nat.le_of_ble_eq_true rfl) | exact ct_gzeroT _ (by assumption) | exact ct_gzeroF _ (by assumption) | exact ct_gsize _ (by assumption) | exact ct_run _ _ _ ha hb) ?_
            | refine AW_nil (fun (h : false = true) => by cases h) ?_
            | refine AW_nil (fun (_ : true = true) => by kernel_rfl) ?_
            | refine Wp_block ?_
            | refine Wp_skip ?_
            | refine Wp_exit ?_
            | refine Wp_ret ?_
          exact le_of ⟨rfl, rfl, rfl, rfl, rfl, rfl, rfl, rfl, trivial⟩ ⟨rfl, rfl, rfl, rfl, rfl, rfl, rfl, rfl, trivial⟩ rfl
      · intro s'' hs''
        refine Wp_le hs'' ?_
        by_cases hg0 : gcdZ a b = 0
        · have h0 : a = 0 ∧ b = 0 := by
            have h1 : Nat.gcd a.natAbs b.natAbs = 0 := by have : ((Nat.gcd a.natAbs b.natAbs : Nat) : Int) = 0 := hg0; omega
            rw [Nat.gcd_eq_zero_iff] at h1
            omega
          obtain ⟨rfl, rfl⟩ := h0
          repeat first
            | refine Wp_seq ?_
            | refine Wp_region tm_mixed ?_
            | refine AW_move rfl rfl ?_
            | refine AW_assign rfl rfl ?_
            | refine AW_load rfl ty_num rfl rfl rfl rfl ?_
            | refine AW_load rfl ty_row rfl rfl rfl rfl ?_
            | refine AW_store ty_num rfl rfl rfl rfl rfl rfl rfl ?_
            | refine AW_store ty_row rfl rfl rfl rfl rfl rfl rfl ?_
            | refine AW_extract rfl rfl rfl ?_
            | refine AW_alloc rfl tz_num ?_
            | refine AW_alloc rfl tz_row ?_
            | refine AW_box rfl rfl (row := true) rfl (fun h => by cases h) rfl ?_
            | refine AW_not rfl rfl ?_
            | refine AW_build rfl tb_num rfl ?_
            | refine AW_build rfl tb_row rfl ?_
            | refine AW_call rfl rfl (by first | exact ct_right _ (Nat.le_of_ble_eq_true rfl) | exact ct_gzeroT _ (by assumption) | exact ct_gzeroF _ (by assumption) | exact ct_gsize _ (by assumption) | exact ct_run _ _ _ ha hb) ?_
            | refine AW_ints rfl tu_nums ti_num ti_size ti_zero rfl rfl rfl (by first | exact .cons _ _ _ _ _ rfl (.cons _ _ _ _ _ rfl (.nil _)) | exact .cons _ _ _ _ _ rfl (.cons _ _ _ _ _ rfl (.cons _ _ _ _ _ rfl (.cons _ _ _ _ _ rfl (.nil _)))) | exact .cons _ _ _ _ _ rfl (.cons _ _ _ _ _ rfl (.cons _ _ _ _ _ rfl (.nil _))) | exact .cons _ _ _ _ _ rfl (.cons _ _ _ _ _ rfl (.cons _ _ _ _ _ rfl (.cons _ _ _ _ _ rfl (.cons _ _ _ _ _ rfl (.nil _)))))) ?_
            | refine AW_load rfl ty_bool rfl rfl rfl rfl ?_ | refine AW_fieldAddr rfl tf_neg rfl rfl ?_ | refine AW_fieldAddr rfl tf_row0 rfl rfl ?_ | refine AW_fieldAddr rfl tf_row1 rfl rfl ?_ | refine AW_arrayAt rfl Try.underlying73 ts_num rfl rfl rfl rfl ?_
            | refine AW_pickT rfl rfl rfl ?_
            | refine AW_pickF rfl rfl rfl ?_
            | refine AW_skip rfl rfl rfl rfl ?_
            | refine AW_pickTg rfl rfl rfl rfl rfl rfl ?_
            | refine AW_pickFg rfl rfl rfl rfl rfl rfl ?_
            | refine AW_moveg rfl rfl rfl rfl rfl ?_
            | refine AW_notg rfl rfl rfl rfl rfl ?_
            | refine AW_eqg rfl rfl rfl rfl rfl rfl ?_
            | refine AW_eq rfl rfl rfl ?_
            | refine AW_loadg rfl rfl rfl rfl ty_num rfl rfl rfl rfl ?_
            | refine AW_loadg rfl rfl rfl rfl ty_row rfl rfl rfl rfl ?_
            | refine AW_callg rfl rfl rfl rfl rfl (by first | exact ct_right _ (Nat.le_of_ble_eq_true rfl) | exact ct_gzeroT _ (by assumption) | exact ct_gzeroF _ (by assumption) | exact ct_gsize _ (by assumption) | exact ct_run _ _ _ ha hb) ?_
            | refine AW_nil (fun (h : false = true) => by cases h) ?_
            | refine AW_nil (fun (_ : true = true) => by kernel_rfl) ?_
            | refine Wp_block ?_
            | refine Wp_skip ?_
            | refine Wp_exit ?_
            | refine Wp_ret ?_
          refine Wp_condT rfl ?_
          repeat first
            | refine Wp_seq ?_
            | refine Wp_region tm_mixed ?_
            | refine AW_move rfl rfl ?_
            | refine AW_assign rfl rfl ?_
            | refine AW_load rfl ty_num rfl rfl rfl rfl ?_
            | refine AW_load rfl ty_row rfl rfl rfl rfl ?_
            | refine AW_store ty_num rfl rfl rfl rfl rfl rfl rfl ?_
            | refine AW_store ty_row rfl rfl rfl rfl rfl rfl rfl ?_
            | refine AW_extract rfl rfl rfl ?_
            | refine AW_alloc rfl tz_num ?_
            | refine AW_alloc rfl tz_row ?_
            | refine AW_box rfl rfl (row := true) rfl (fun h => by cases h) rfl ?_
            | refine AW_not rfl rfl ?_
            | refine AW_build rfl tb_num rfl ?_
            | refine AW_build rfl tb_row rfl ?_
            | refine AW_call rfl rfl (by first | exact ct_right _ (Nat.le_of_ble_eq_true rfl) | exact ct_gzeroT _ (by assumption) | exact ct_gzeroF _ (by assumption) | exact ct_gsize _ (by assumption) | exact ct_run _ _ _ ha hb) ?_
            | refine AW_ints rfl tu_nums ti_num ti_size ti_zero rfl rfl rfl (by first | exact .cons _ _ _ _ _ rfl (.cons _ _ _ _ _ rfl (.nil _)) | exact .cons _ _ _ _ _ rfl (.cons _ _ _ _ _ rfl (.cons _ _ _ _ _ rfl (.cons _ _ _ _ _ rfl (.nil _)))) | exact .cons _ _ _ _ _ rfl (.cons _ _ _ _ _ rfl (.cons _ _ _ _ _ rfl (.nil _))) | exact .cons _ _ _ _ _ rfl (.cons _ _ _ _ _ rfl (.cons _ _ _ _ _ rfl (.cons _ _ _ _ _ rfl (.cons _ _ _ _ _ rfl (.nil _)))))) ?_
            | refine AW_load rfl ty_bool rfl rfl rfl rfl ?_ | refine AW_fieldAddr rfl tf_neg rfl rfl ?_ | refine AW_fieldAddr rfl tf_row0 rfl rfl ?_ | refine AW_fieldAddr rfl tf_row1 rfl rfl ?_ | refine AW_arrayAt rfl Try.underlying73 ts_num rfl rfl rfl rfl ?_
            | refine AW_pickT rfl rfl rfl ?_
            | refine AW_pickF rfl rfl rfl ?_
            | refine AW_skip rfl rfl rfl rfl ?_
            | refine AW_pickTg rfl rfl rfl rfl rfl rfl ?_
            | refine AW_pickFg rfl rfl rfl rfl rfl rfl ?_
            | refine AW_moveg rfl rfl rfl rfl rfl ?_
            | refine AW_notg rfl rfl rfl rfl rfl ?_
            | refine AW_eqg rfl rfl rfl rfl rfl rfl ?_
            | refine AW_eq rfl rfl rfl ?_
            | refine AW_loadg rfl rfl rfl rfl ty_num rfl rfl rfl rfl ?_
            | refine AW_loadg rfl rfl rfl rfl ty_row rfl rfl rfl rfl ?_
            | refine AW_callg rfl rfl rfl rfl rfl (by first | exact ct_right _ (Nat.le_of_ble_eq_true rfl) | exact ct_gzeroT _ (by assumption) | exact ct_gzeroF _ (by assumption) | exact ct_gsize _ (by assumption) | exact ct_run _ _ _ ha hb) ?_
            | refine AW_nil (fun (h : false = true) => by cases h) ?_
            | refine AW_nil (fun (_ : true = true) => by kernel_rfl) ?_
            | refine Wp_block ?_
            | refine Wp_skip ?_
            | refine Wp_exit ?_
            | refine Wp_ret ?_
          exact ⟨.inr rfl, _, .cell _ _ _ _ _ _ _ _ _ _ _ ty_num rfl rfl rfl (.cell _ _ _ _ _ _ _ _ _ _ _ ty_num rfl rfl rfl (.cell _ _ _ _ _ _ _ _ _ _ _ ty_num rfl rfl rfl (.tmp _ _ _ _ rfl .nil))), by
            rw [hg0, show bzX 0 0 = 0 from rfl, show bzY 0 0 = 0 from rfl, zZ_zero]; rfl⟩
        · by_cases hb0 : b = 0
          · subst hb0
            have hX : eX a 0 = bzX a 0 := by
              unfold eX bzX eucR
              rw [if_pos rfl, show (0 : Int).natAbs = 0 from rfl, euc_zero]
              have : a ≠ 0 := fun e => hg0 (by subst e; rfl)
              by_cases h : a < 0
              · rw [if_pos h, Int.sign_eq_neg_one_of_neg h]
              · rw [if_neg h, Int.sign_eq_one_of_pos (by omega)]
            rw [← hX]
            have hz0 : (0 : Int) = 0 := rfl
            repeat first
              | refine Wp_seq ?_
              | refine Wp_region tm_mixed ?_
              | refine AW_move rfl rfl ?_
              | refine AW_assign rfl rfl ?_
              | refine AW_load rfl ty_num rfl rfl rfl rfl ?_
              | refine AW_load rfl ty_row rfl rfl rfl rfl ?_
              | refine AW_store ty_num rfl rfl rfl rfl rfl rfl rfl ?_
              | refine AW_store ty_row rfl rfl rfl rfl rfl rfl rfl ?_
              | refine AW_extract rfl rfl rfl ?_
              | refine AW_alloc rfl tz_num ?_
              | refine AW_alloc rfl tz_row ?_
              | refine AW_box rfl rfl (row := true) rfl (fun h => by cases h) rfl ?_
              | refine AW_not rfl rfl ?_
              | refine AW_build rfl tb_num rfl ?_
              | refine AW_build rfl tb_row rfl ?_
              | refine AW_call rfl rfl (by first | exact ct_right _ (Nat.le_of_ble_eq_true rfl) | exact ct_gzeroT _ (by assumption) | exact ct_gzeroF _ (by assumption) | exact ct_gsize _ (by assumption) | exact ct_run _ _ _ ha hb) ?_
              | refine AW_ints rfl tu_nums ti_num ti_size ti_zero rfl rfl rfl (by first | exact .cons _ _ _ _ _ rfl (.cons _ _ _ _ _ rfl (.nil _)) | exact .cons _ _ _ _ _ rfl (.cons _ _ _ _ _ rfl (.cons _ _ _ _ _ rfl (.cons _ _ _ _ _ rfl (.nil _)))) | exact .cons _ _ _ _ _ rfl (.cons _ _ _ _ _ rfl (.cons _ _ _ _ _ rfl (.nil _))) | exact .cons _ _ _ _ _ rfl (.cons _ _ _ _ _ rfl (.cons _ _ _ _ _ rfl (.cons _ _ _ _ _ rfl (.cons _ _ _ _ _ rfl (.nil _)))))) ?_
              | refine AW_load rfl ty_bool rfl rfl rfl rfl ?_ | refine AW_fieldAddr rfl tf_neg rfl rfl ?_ | refine AW_fieldAddr rfl tf_row0 rfl rfl ?_ | refine AW_fieldAddr rfl tf_row1 rfl rfl ?_ | refine AW_arrayAt rfl Try.underlying73 ts_num rfl rfl rfl rfl ?_
              | refine AW_pickT rfl rfl rfl ?_
              | refine AW_pickF rfl rfl rfl ?_
              | refine AW_skip rfl rfl rfl rfl ?_
              | refine AW_pickTg rfl rfl rfl rfl rfl rfl ?_
              | refine AW_pickFg rfl rfl rfl rfl rfl rfl ?_
              | refine AW_moveg rfl rfl rfl rfl rfl ?_
              | refine AW_notg rfl rfl rfl rfl rfl ?_
              | refine AW_eqg rfl rfl rfl rfl rfl rfl ?_
              | refine AW_eq rfl rfl rfl ?_
              | refine AW_loadg rfl rfl rfl rfl ty_num rfl rfl rfl rfl ?_
              | refine AW_loadg rfl rfl rfl rfl ty_row rfl rfl rfl rfl ?_
              | refine AW_callg rfl rfl rfl rfl rfl (by first | exact ct_right _ (Nat.le_of_ble_eq_true rfl) | exact ct_gzeroT _ (by assumption) | exact ct_gzeroF _ (by assumption) | exact ct_gsize _ (by assumption) | exact ct_run _ _ _ ha hb) ?_
              | refine AW_nil (fun (h : false = true) => by cases h) ?_
              | refine AW_nil (fun (_ : true = true) => by kernel_rfl) ?_
              | refine Wp_block ?_
              | refine Wp_skip ?_
              | refine Wp_exit ?_
              | refine Wp_ret ?_
            refine Wp_condF rfl ?_
            repeat first
              | refine Wp_seq ?_
              | refine Wp_region tm_mixed ?_
              | refine AW_move rfl rfl ?_
              | refine AW_assign rfl rfl ?_
              | refine AW_load rfl ty_num rfl rfl rfl rfl ?_
              | refine AW_load rfl ty_row rfl rfl rfl rfl ?_
              | refine AW_store ty_num rfl rfl rfl rfl rfl rfl rfl ?_
              | refine AW_store ty_row rfl rfl rfl rfl rfl rfl rfl ?_
              | refine AW_extract rfl rfl rfl ?_
              | refine AW_alloc rfl tz_num ?_
              | refine AW_alloc rfl tz_row ?_
              | refine AW_box rfl rfl (row := true) rfl (fun h => by cases h) rfl ?_
              | refine AW_not rfl rfl ?_
              | refine AW_build rfl tb_num rfl ?_
              | refine AW_build rfl tb_row rfl ?_
              | refine AW_call rfl rfl (by first | exact ct_right _ (Nat.le_of_ble_eq_true rfl) | exact ct_gzeroT _ (by assumption) | exact ct_gzeroF _ (by assumption) | exact ct_gsize _ (by assumption) | exact ct_run _ _ _ ha hb) ?_
              | refine AW_ints rfl tu_nums ti_num ti_size ti_zero rfl rfl rfl (by first | exact .cons _ _ _ _ _ rfl (.cons _ _ _ _ _ rfl (.nil _)) | exact .cons _ _ _ _ _ rfl (.cons _ _ _ _ _ rfl (.cons _ _ _ _ _ rfl (.cons _ _ _ _ _ rfl (.nil _)))) | exact .cons _ _ _ _ _ rfl (.cons _ _ _ _ _ rfl (.cons _ _ _ _ _ rfl (.nil _))) | exact .cons _ _ _ _ _ rfl (.cons _ _ _ _ _ rfl (.cons _ _ _ _ _ rfl (.cons _ _ _ _ _ rfl (.cons _ _ _ _ _ rfl (.nil _)))))) ?_
              | refine AW_load rfl ty_bool rfl rfl rfl rfl ?_ | refine AW_fieldAddr rfl tf_neg rfl rfl ?_ | refine AW_fieldAddr rfl tf_row0 rfl rfl ?_ | refine AW_fieldAddr rfl tf_row1 rfl rfl ?_ | refine AW_arrayAt rfl Try.underlying73 ts_num rfl rfl rfl rfl ?_
              | refine AW_pickT rfl rfl rfl ?_
              | refine AW_pickF rfl rfl rfl ?_
              | refine AW_skip rfl rfl rfl rfl ?_
              | refine AW_pickTg rfl rfl rfl rfl rfl rfl ?_
              | refine AW_pickFg rfl rfl rfl rfl rfl rfl ?_
              | refine AW_moveg rfl rfl rfl rfl rfl ?_
              | refine AW_notg rfl rfl rfl rfl rfl ?_
              | refine AW_eqg rfl rfl rfl rfl rfl rfl ?_
              | refine AW_eq rfl rfl rfl ?_
              | refine AW_loadg rfl rfl rfl rfl ty_num rfl rfl rfl rfl ?_
              | refine AW_loadg rfl rfl rfl rfl ty_row rfl rfl rfl rfl ?_
              | refine AW_callg rfl rfl rfl rfl rfl (by first | exact ct_right _ (Nat.le_of_ble_eq_true rfl) | exact ct_gzeroT _ (by assumption) | exact ct_gzeroF _ (by assumption) | exact ct_gsize _ (by assumption) | exact ct_run _ _ _ ha hb) ?_
              | refine AW_nil (fun (h : false = true) => by cases h) ?_
              | refine AW_nil (fun (_ : true = true) => by kernel_rfl) ?_
              | refine Wp_block ?_
              | refine Wp_skip ?_
              | refine Wp_exit ?_
              | refine Wp_ret ?_
            refine Wp_condT rfl ?_
            repeat first
              | refine Wp_seq ?_
              | refine Wp_region tm_mixed ?_
              | refine AW_move rfl rfl ?_
              | refine AW_assign rfl rfl ?_
              | refine AW_load rfl ty_num rfl rfl rfl rfl ?_
              | refine AW_load rfl ty_row rfl rfl rfl rfl ?_
              | refine AW_store ty_num rfl rfl rfl rfl rfl rfl rfl ?_
              | refine AW_store ty_row rfl rfl rfl rfl rfl rfl rfl ?_
              | refine AW_extract rfl rfl rfl ?_
              | refine AW_alloc rfl tz_num ?_
              | refine AW_alloc rfl tz_row ?_
              | refine AW_box rfl rfl (row := true) rfl (fun h => by cases h) rfl ?_
              | refine AW_not rfl rfl ?_
              | refine AW_build rfl tb_num rfl ?_
              | refine AW_build rfl tb_row rfl ?_
              | refine AW_call rfl rfl (by first | exact ct_right _ (Nat.le_of_ble_eq_true rfl) | exact ct_gzeroT _ (by assumption) | exact ct_gzeroF _ (by assumption) | exact ct_gsize _ (by assumption) | exact ct_run _ _ _ ha hb) ?_
              | refine AW_ints rfl tu_nums ti_num ti_size ti_zero rfl rfl rfl (by first | exact .cons _ _ _ _ _ rfl (.cons _ _ _ _ _ rfl (.nil _)) | exact .cons _ _ _ _ _ rfl (.cons _ _ _ _ _ rfl (.cons _ _ _ _ _ rfl (.cons _ _ _ _ _ rfl (.nil _)))) | exact .cons _ _ _ _ _ rfl (.cons _ _ _ _ _ rfl (.cons _ _ _ _ _ rfl (.nil _))) | exact .cons _ _ _ _ _ rfl (.cons _ _ _ _ _ rfl (.cons _ _ _ _ _ rfl (.cons _ _ _ _ _ rfl (.cons _ _ _ _ _ rfl (.nil _)))))) ?_
              | refine AW_load rfl ty_bool rfl rfl rfl rfl ?_ | refine AW_fieldAddr rfl tf_neg rfl rfl ?_ | refine AW_fieldAddr rfl tf_row0 rfl rfl ?_ | refine AW_fieldAddr rfl tf_row1 rfl rfl ?_ | refine AW_arrayAt rfl Try.underlying73 ts_num rfl rfl rfl rfl ?_
              | refine AW_pickT rfl rfl rfl ?_
              | refine AW_pickF rfl rfl rfl ?_
              | refine AW_skip rfl rfl rfl rfl ?_
              | refine AW_pickTg rfl rfl rfl rfl rfl rfl ?_
              | refine AW_pickFg rfl rfl rfl rfl rfl rfl ?_
              | refine AW_moveg rfl rfl rfl rfl rfl ?_
              | refine AW_notg rfl rfl rfl rfl rfl ?_
              | refine AW_eqg rfl rfl rfl rfl rfl rfl ?_
              | refine AW_eq rfl rfl rfl ?_
              | refine AW_loadg rfl rfl rfl rfl ty_num rfl rfl rfl rfl ?_
              | refine AW_loadg rfl rfl rfl rfl ty_row rfl rfl rfl rfl ?_
              | refine AW_callg rfl rfl rfl rfl rfl (by first | exact ct_right _ (Nat.le_of_ble_eq_true rfl) | exact ct_gzeroT _ (by assumption) | exact ct_gzeroF _ (by assumption) | exact ct_gsize _ (by assumption) | exact ct_run _ _ _ ha hb) ?_
              | refine AW_nil (fun (h : false = true) => by cases h) ?_
              | refine AW_nil (fun (_ : true = true) => by kernel_rfl) ?_
              | refine Wp_block ?_
              | refine Wp_skip ?_
              | refine Wp_exit ?_
              | refine Wp_ret ?_
            exact ⟨.inr rfl, _, .cell _ _ _ _ _ _ _ _ _ _ _ ty_num rfl rfl rfl (.cell _ _ _ _ _ _ _ _ _ _ _ ty_num rfl rfl rfl (.cell _ _ _ _ _ _ _ _ _ _ _ ty_num rfl rfl rfl (.tmp _ _ _ _ rfl .nil))), by
              rw [show bzY a 0 = 0 from rfl, zZ_zero]; rfl⟩
          · have hgn : lc (gcdZ a b).natAbs ≤ 1200 := by unfold gcdZ; rw [Int.natAbs_natCast]; exact Nat.le_trans (gcd_small ha hb) (by decide)
            have kE := ct_Exact0 (b.natAbs : Int) (gcdZ a b) (by rw [Int.natAbs_natCast]; omega) hgn hg0 (by
              show ((b.natAbs % Nat.gcd a.natAbs b.natAbs : Nat) : Int) = 0
              rw [Nat.mod_eq_zero_of_dvd (Nat.gcd_dvd_right _ _)]; rfl)
            rw [show (b.natAbs : Int).tdiv (gcdZ a b) = bM a b from rfl] at kE
            have kF := ct_Exact0 a (gcdZ a b) (by omega) hgn hg0 (Int.tmod_eq_zero_of_dvd (gcdZ_dvd_left a b))
            have hT1 : lc (a.tdiv (gcdZ a b)).natAbs ≤ 4096 := by rw [Int.natAbs_tdiv]; exact Nat.le_trans (lc_mono (Nat.div_le_self _ _)) (by omega)
            have hM1 : lc (bM a b).natAbs ≤ 4096 := Nat.le_trans (lc_mono (bM_le a b)) (by omega)
            have hT2 : lc (bT a b).natAbs ≤ 4096 := Nat.le_trans (bT_lc ha) (by decide)
            repeat first
              | refine Wp_seq ?_
              | refine Wp_region tm_mixed ?_
              | refine AW_move rfl rfl ?_
              | refine AW_assign rfl rfl ?_
              | refine AW_load rfl ty_num rfl rfl rfl rfl ?_
              | refine AW_load rfl ty_row rfl rfl rfl rfl ?_
              | refine AW_store ty_num rfl rfl rfl rfl rfl rfl rfl ?_
              | refine AW_store ty_row rfl rfl rfl rfl rfl rfl rfl ?_
              | refine AW_extract rfl rfl rfl ?_
              | refine AW_alloc rfl tz_num ?_
              | refine AW_alloc rfl tz_row ?_
              | refine AW_box rfl rfl (row := true) rfl (fun h => by cases h) rfl ?_
              | refine AW_not rfl rfl ?_
              | refine AW_build rfl tb_num rfl ?_
              | refine AW_build rfl tb_row rfl ?_
              | refine AW_call rfl rfl (by first | exact ct_right _ (Nat.le_of_ble_eq_true rfl) | exact ct_gzeroT _ (by assumption) | exact ct_gzeroF _ (by assumption) | exact ct_gsize _ (by assumption) | exact ct_run _ _ _ ha hb | exact kE | exact kF) ?_
              | refine AW_ints rfl tu_nums ti_num ti_size ti_zero rfl rfl rfl (by first | exact .cons _ _ _ _ _ rfl (.cons _ _ _ _ _ rfl (.nil _)) | exact .cons _ _ _ _ _ rfl (.cons _ _ _ _ _ rfl (.cons _ _ _ _ _ rfl (.cons _ _ _ _ _ rfl (.nil _)))) | exact .cons _ _ _ _ _ rfl (.cons _ _ _ _ _ rfl (.cons _ _ _ _ _ rfl (.nil _))) | exact .cons _ _ _ _ _ rfl (.cons _ _ _ _ _ rfl (.cons _ _ _ _ _ rfl (.cons _ _ _ _ _ rfl (.cons _ _ _ _ _ rfl (.nil _)))))) ?_
              | refine AW_load rfl ty_bool rfl rfl rfl rfl ?_ | refine AW_fieldAddr rfl tf_neg rfl rfl ?_ | refine AW_fieldAddr rfl tf_row0 rfl rfl ?_ | refine AW_fieldAddr rfl tf_row1 rfl rfl ?_ | refine AW_arrayAt rfl Try.underlying73 ts_num rfl rfl rfl rfl ?_
              | refine AW_pickT rfl rfl rfl ?_
              | refine AW_pickF rfl rfl rfl ?_
              | refine AW_skip rfl rfl rfl rfl ?_
              | refine AW_pickTg rfl rfl rfl rfl rfl rfl ?_
              | refine AW_pickFg rfl rfl rfl rfl rfl rfl ?_
              | refine AW_moveg rfl rfl rfl rfl rfl ?_
              | refine AW_notg rfl rfl rfl rfl rfl ?_
              | refine AW_eqg rfl rfl rfl rfl rfl rfl ?_
              | refine AW_eq rfl rfl rfl ?_
              | refine AW_loadg rfl rfl rfl rfl ty_num rfl rfl rfl rfl ?_
              | refine AW_loadg rfl rfl rfl rfl ty_row rfl rfl rfl rfl ?_
              | refine AW_callg rfl rfl rfl rfl rfl (by first | exact ct_right _ (Nat.le_of_ble_eq_true rfl) | exact ct_gzeroT _ (by assumption) | exact ct_gzeroF _ (by assumption) | exact ct_gsize _ (by assumption) | exact ct_run _ _ _ ha hb | exact kE | exact kF) ?_
              | refine AW_nil (fun (h : false = true) => by cases h) ?_
              | refine AW_nil (fun (_ : true = true) => by kernel_rfl) ?_
              | refine Wp_block ?_
              | refine Wp_skip ?_
              | refine Wp_exit ?_
              | refine Wp_ret ?_
            refine Wp_condF rfl ?_
            repeat first
              | refine Wp_seq ?_
              | refine Wp_region tm_mixed ?_
              | refine AW_move rfl rfl ?_
              | refine AW_assign rfl rfl ?_
              | refine AW_load rfl ty_num rfl rfl rfl rfl ?_
              | refine AW_load rfl ty_row rfl rfl rfl rfl ?_
              | refine AW_store ty_num rfl rfl rfl rfl rfl rfl rfl ?_
              | refine AW_store ty_row rfl rfl rfl rfl rfl rfl rfl ?_
              | refine AW_extract rfl rfl rfl ?_
              | refine AW_alloc rfl tz_num ?_
              | refine AW_alloc rfl tz_row ?_
              | refine AW_box rfl rfl (row := true) rfl (fun h => by cases h) rfl ?_
              | refine AW_not rfl rfl ?_
              | refine AW_build rfl tb_num rfl ?_
              | refine AW_build rfl tb_row rfl ?_
              | refine AW_call rfl rfl (by first | exact ct_right _ (Nat.le_of_ble_eq_true rfl) | exact ct_gzeroT _ (by assumption) | exact ct_gzeroF _ (by assumption) | exact ct_gsize _ (by assumption) | exact ct_run _ _ _ ha hb | exact kE | exact kF) ?_
              | refine AW_ints rfl tu_nums ti_num ti_size ti_zero rfl rfl rfl (by first | exact .cons _ _ _ _ _ rfl (.cons _ _ _ _ _ rfl (.nil _)) | exact .cons _ _ _ _ _ rfl (.cons _ _ _ _ _ rfl (.cons _ _ _ _ _ rfl (.cons _ _ _ _ _ rfl (.nil _)))) | exact .cons _ _ _ _ _ rfl (.cons _ _ _ _ _ rfl (.cons _ _ _ _ _ rfl (.nil _))) | exact .cons _ _ _ _ _ rfl (.cons _ _ _ _ _ rfl (.cons _ _ _ _ _ rfl (.cons _ _ _ _ _ rfl (.cons _ _ _ _ _ rfl (.nil _)))))) ?_
              | refine AW_load rfl ty_bool rfl rfl rfl rfl ?_ | refine AW_fieldAddr rfl tf_neg rfl rfl ?_ | refine AW_fieldAddr rfl tf_row0 rfl rfl ?_ | refine AW_fieldAddr rfl tf_row1 rfl rfl ?_ | refine AW_arrayAt rfl Try.underlying73 ts_num rfl rfl rfl rfl ?_
              | refine AW_pickT rfl rfl rfl ?_
              | refine AW_pickF rfl rfl rfl ?_
              | refine AW_skip rfl rfl rfl rfl ?_
              | refine AW_pickTg rfl rfl rfl rfl rfl rfl ?_
              | refine AW_pickFg rfl rfl rfl rfl rfl rfl ?_
              | refine AW_moveg rfl rfl rfl rfl rfl ?_
              | refine AW_notg rfl rfl rfl rfl rfl ?_
              | refine AW_eqg rfl rfl rfl rfl rfl rfl ?_
              | refine AW_eq rfl rfl rfl ?_
              | refine AW_loadg rfl rfl rfl rfl ty_num rfl rfl rfl rfl ?_
              | refine AW_loadg rfl rfl rfl rfl ty_row rfl rfl rfl rfl ?_
              | refine AW_callg rfl rfl rfl rfl rfl (by first | exact ct_right _ (Nat.le_of_ble_eq_true rfl) | exact ct_gzeroT _ (by assumption) | exact ct_gzeroF _ (by assumption) | exact ct_gsize _ (by assumption) | exact ct_run _ _ _ ha hb | exact kE | exact kF) ?_
              | refine AW_nil (fun (h : false = true) => by cases h) ?_
              | refine AW_nil (fun (_ : true = true) => by kernel_rfl) ?_
              | refine Wp_block ?_
              | refine Wp_skip ?_
              | refine Wp_exit ?_
              | refine Wp_ret ?_
            refine Wp_condF rfl ?_
            repeat first
              | refine Wp_seq ?_
              | refine Wp_region tm_mixed ?_
              | refine AW_move rfl rfl ?_
              | refine AW_assign rfl rfl ?_
              | refine AW_load rfl ty_num rfl rfl rfl rfl ?_
              | refine AW_load rfl ty_row rfl rfl rfl rfl ?_
              | refine AW_store ty_num rfl rfl rfl rfl rfl rfl rfl ?_
              | refine AW_store ty_row rfl rfl rfl rfl rfl rfl rfl ?_
              | refine AW_extract rfl rfl rfl ?_
              | refine AW_alloc rfl tz_num ?_
              | refine AW_alloc rfl tz_row ?_
              | refine AW_box rfl rfl (row := true) rfl (fun h => by cases h) rfl ?_
              | refine AW_not rfl rfl ?_
              | refine AW_build rfl tb_num rfl ?_
              | refine AW_build rfl tb_row rfl ?_
              | refine AW_call rfl rfl (by first | exact ct_right _ (Nat.le_of_ble_eq_true rfl) | exact ct_gzeroT _ (by assumption) | exact ct_gzeroF _ (by assumption) | exact ct_gsize _ (by assumption) | exact ct_run _ _ _ ha hb | exact kE | exact kF) ?_
              | refine AW_ints rfl tu_nums ti_num ti_size ti_zero rfl rfl rfl (by first | exact .cons _ _ _ _ _ rfl (.cons _ _ _ _ _ rfl (.nil _)) | exact .cons _ _ _ _ _ rfl (.cons _ _ _ _ _ rfl (.cons _ _ _ _ _ rfl (.cons _ _ _ _ _ rfl (.nil _)))) | exact .cons _ _ _ _ _ rfl (.cons _ _ _ _ _ rfl (.cons _ _ _ _ _ rfl (.nil _))) | exact .cons _ _ _ _ _ rfl (.cons _ _ _ _ _ rfl (.cons _ _ _ _ _ rfl (.cons _ _ _ _ _ rfl (.cons _ _ _ _ _ rfl (.nil _)))))) ?_
              | refine AW_load rfl ty_bool rfl rfl rfl rfl ?_ | refine AW_fieldAddr rfl tf_neg rfl rfl ?_ | refine AW_fieldAddr rfl tf_row0 rfl rfl ?_ | refine AW_fieldAddr rfl tf_row1 rfl rfl ?_ | refine AW_arrayAt rfl Try.underlying73 ts_num rfl rfl rfl rfl ?_
              | refine AW_pickT rfl rfl rfl ?_
              | refine AW_pickF rfl rfl rfl ?_
              | refine AW_skip rfl rfl rfl rfl ?_
              | refine AW_pickTg rfl rfl rfl rfl rfl rfl ?_
              | refine AW_pickFg rfl rfl rfl rfl rfl rfl ?_
              | refine AW_moveg rfl rfl rfl rfl rfl ?_
              | refine AW_notg rfl rfl rfl rfl rfl ?_
              | refine AW_eqg rfl rfl rfl rfl rfl rfl ?_
              | refine AW_eq rfl rfl rfl ?_
              | refine AW_loadg rfl rfl rfl rfl ty_num rfl rfl rfl rfl ?_
              | refine AW_loadg rfl rfl rfl rfl ty_row rfl rfl rfl rfl ?_
              | refine AW_callg rfl rfl rfl rfl rfl (by first | exact ct_right _ (Nat.le_of_ble_eq_true rfl) | exact ct_gzeroT _ (by assumption) | exact ct_gzeroF _ (by assumption) | exact ct_gsize _ (by assumption) | exact ct_run _ _ _ ha hb | exact kE | exact kF) ?_
              | refine AW_nil (fun (h : false = true) => by cases h) ?_
              | refine AW_nil (fun (_ : true = true) => by kernel_rfl) ?_
              | refine Wp_block ?_
              | refine Wp_skip ?_
              | refine Wp_exit ?_
              | refine Wp_ret ?_
            refine Wp_to (fun s' => Le s' ⟨[(2, .val (.one (.ptr 0 0))), (3, .val (.one (.ptr 1 0))), (4, .val (.one (.ptr 2 0))), (5, .val (.one (.ptr 3 0))), (6, .val (.one (.ptr 4 0))), (9, .val (.one (.ptr 6 0))), (10, .val (.one (.ptr 7 0))), (11, .val (.one (.ptr 8 0))), (12, .val (.one (.ptr 9 0))), (15, .val (.one (.ptr 10 0)))],
      [(0, 24, [.b (rawOf a).1, .st (magP (rawOf a).2)]), (1, 24, [.b (rawOf b).1, .st (magP (rawOf b).2)]), (2, 24, [.b false, .st (magP [])]), (3, 24, [.b false, .st (magP [])]), (4, 24, [.b false, .st (magP [])]),
       (6, 24, [.b (rawOf (gcdZ a b)).1, .st (magP (rawOf (gcdZ a b)).2)]), (7, 24, [.b (rawOf (eX a b)).1, .st (magP (rawOf (eX a b)).2)]), (8, 24, [.b (rawOf (eY a b)).1, .st (magP (rawOf (eY a b)).2)]), (9, 24, [.b (rawOf (bM a b)).1, .st (magP (rawOf (bM a b)).2)]), (10, 24, [.b (rawOf (bT a b)).1, .st (magP (rawOf (bT a b)).2)])], 11⟩) ?_ ?_
            · refine Wp_cond rfl (fun hc => ?_) (fun hc => ?_)
              · have hT : bT a b = -(a.tdiv (gcdZ a b)) := by unfold bT; rw [if_pos (of_decide_eq_true hc)]
                rw [hT]
                repeat first
                  | refine Wp_seq ?_
                  | refine Wp_region tm_mixed ?_
                  | refine AW_move rfl rfl ?_
                  | refine AW_assign rfl rfl ?_
                  | refine AW_load rfl ty_num rfl rfl rfl rfl ?_
                  | refine AW_load rfl ty_row rfl rfl rfl rfl ?_
                  | refine AW_store ty_num rfl rfl rfl rfl rfl rfl rfl ?_
                  | refine AW_store ty_row rfl rfl rfl rfl rfl rfl rfl ?_
                  | refine AW_extract rfl rfl rfl ?_
                  | refine AW_alloc rfl tz_num ?_
                  | refine AW_alloc rfl tz_row ?_
                  | refine AW_box rfl rfl (row := true) rfl (fun h => by cases h) rfl ?_
                  | refine AW_not rfl rfl ?_
                  | refine AW_build rfl tb_num rfl ?_
                  | refine AW_build rfl tb_row rfl ?_
                  | refine AW_call rfl rfl (by first | exact ct_right _ (Nat.le_of_ble_eq_true rfl) | exact ct_gzeroT _ (by assumption) | exact ct_gzeroF _ (by assumption) | exact ct_gsize _ (by assumption) | exact ct_run _ _ _ ha hb | exact ct_Neg _ hT1) ?_
                  | refine AW_ints rfl tu_nums ti_num ti_size ti_zero rfl rfl rfl (by first | exact .cons _ _ _ _ _ rfl (.cons _ _ _ _ _ rfl (.nil _)) | exact .cons _ _ _ _ _ rfl (.cons _ _ _ _ _ rfl (.cons _ _ _ _ _ rfl (.cons _ _ _ _ _ rfl (.nil _)))) | exact .cons _ _ _ _ _ rfl (.cons _ _ _ _ _ rfl (.cons _ _ _ _ _ rfl (.nil _))) | exact .cons _ _ _ _ _ rfl (.cons _ _ _ _ _ rfl (.cons _ _ _ _ _ rfl (.cons _ _ _ _ _ rfl (.cons _ _ _ _ _ rfl (.nil _)))))) ?_
                  | refine AW_load rfl ty_bool rfl rfl rfl rfl ?_ | refine AW_fieldAddr rfl tf_neg rfl rfl ?_ | refine AW_fieldAddr rfl tf_row0 rfl rfl ?_ | refine AW_fieldAddr rfl tf_row1 rfl rfl ?_ | refine AW_arrayAt rfl Try.underlying73 ts_num rfl rfl rfl rfl ?_
                  | refine AW_pickT rfl rfl rfl ?_
                  | refine AW_pickF rfl rfl rfl ?_
                  | refine AW_skip rfl rfl rfl rfl ?_
                  | refine AW_pickTg rfl rfl rfl rfl rfl rfl ?_
                  | refine AW_pickFg rfl rfl rfl rfl rfl rfl ?_
                  | refine AW_moveg rfl rfl rfl rfl rfl ?_
                  | refine AW_notg rfl rfl rfl rfl rfl ?_
                  | refine AW_eqg rfl rfl rfl rfl rfl rfl ?_
                  | refine AW_eq rfl rfl rfl ?_
                  | refine AW_loadg rfl rfl rfl rfl ty_num rfl rfl rfl rfl ?_
                  | refine AW_loadg rfl rfl rfl rfl ty_row rfl rfl rfl rfl ?_
                  | refine AW_callg rfl rfl rfl rfl rfl (by first | exact ct_right _ (Nat.le_of_ble_eq_true rfl) | exact ct_gzeroT _ (by assumption) | exact ct_gzeroF _ (by assumption) | exact ct_gsize _ (by assumption) | exact ct_run _ _ _ ha hb | exact ct_Neg _ hT1) ?_
                  | refine AW_nil (fun (h : false = true) => by cases h) ?_
                  | refine AW_nil (fun (_ : true = true) => by kernel_rfl) ?_
                  | refine Wp_block ?_
                  | refine Wp_skip ?_
                  | refine Wp_exit ?_
                  | refine Wp_ret ?_
                exact le_of ⟨rfl, rfl, rfl, rfl, rfl, rfl, rfl, rfl, rfl, rfl, trivial⟩ ⟨rfl, rfl, rfl, rfl, rfl, rfl, rfl, rfl, rfl, rfl, trivial⟩ rfl
              · have hT : bT a b = a.tdiv (gcdZ a b) := by unfold bT; rw [if_neg (of_decide_eq_false hc)]
                rw [hT]
                repeat first
                  | refine Wp_seq ?_
                  | refine Wp_region tm_mixed ?_
                  | refine AW_move rfl rfl ?_
                  | refine AW_assign rfl rfl ?_
                  | refine AW_load rfl ty_num rfl rfl rfl rfl ?_
                  | refine AW_load rfl ty_row rfl rfl rfl rfl ?_
                  | refine AW_store ty_num rfl rfl rfl rfl rfl rfl rfl ?_
                  | refine AW_store ty_row rfl rfl rfl rfl rfl rfl rfl ?_
                  | refine AW_extract rfl rfl rfl ?_
                  | refine AW_alloc rfl tz_num ?_
                  | refine AW_alloc rfl tz_row ?_
                  | refine AW_box rfl rfl (row := true) rfl (fun h => by cases h) rfl ?_
                  | refine AW_not rfl rfl ?_
                  | refine AW_build rfl tb_num rfl ?_
                  | refine AW_build rfl tb_row rfl ?_
                  | refine AW_call rfl rfl (by first | exact ct_right _ (Nat.le_of_ble_eq_true rfl) | exact ct_gzeroT _ (by assumption) | exact ct_gzeroF _ (by assumption) | exact ct_gsize _ (by assumption) | exact ct_run _ _ _ ha hb) ?_
                  | refine AW_ints rfl tu_nums ti_num ti_size ti_zero rfl rfl rfl (by first | exact .cons _ _ _ _ _ rfl (.cons _ _ _ _ _ rfl (.nil _)) | exact .cons _ _ _ _ _ rfl (.cons _ _ _ _ _ rfl (.cons _ _ _ _ _ rfl (.cons _ _ _ _ _ rfl (.nil _)))) | exact .cons _ _ _ _ _ rfl (.cons _ _ _ _ _ rfl (.cons _ _ _ _ _ rfl (.nil _))) | exact .cons _ _ _ _ _ rfl (.cons _ _ _ _ _ rfl (.cons _ _ _ _ _ rfl (.cons _ _ _ _ _ rfl (.cons _ _ _ _ _ rfl (.nil _)))))) ?_
                  | refine AW_load rfl ty_bool rfl rfl rfl rfl ?_ | refine AW_fieldAddr rfl tf_neg rfl rfl ?_ | refine AW_fieldAddr rfl tf_row0 rfl rfl ?_ | refine AW_fieldAddr rfl tf_row1 rfl rfl ?_ | refine AW_arrayAt rfl Try.underlying73 ts_num rfl rfl rfl rfl ?_
                  | refine AW_pickT rfl rfl rfl ?_
                  | refine AW_pickF rfl rfl rfl ?_
                  | refine AW_skip rfl rfl rfl rfl ?_
                  | refine AW_pickTg rfl rfl rfl rfl rfl rfl ?_
                  | refine AW_pickFg rfl rfl rfl rfl rfl rfl ?_
                  | refine AW_moveg rfl rfl rfl rfl rfl ?_
                  | refine AW_notg rfl rfl rfl rfl rfl ?_
                  | refine AW_eqg rfl rfl rfl rfl rfl rfl ?_
                  | refine AW_eq rfl rfl rfl ?_
                  | refine AW_loadg rfl rfl rfl rfl ty_num rfl rfl rfl rfl ?_
                  | refine AW_loadg rfl rfl rfl rfl ty_row rfl rfl rfl rfl ?_
                  | refine AW_callg rfl rfl rfl rfl rfl (by first | exact ct_right _ (Nat.le_of_ble_eq_true rfl) | exact ct_gzeroT _ (by assumption) | exact ct_gzeroF _ (by assumption) | exact ct_gsize _ (by assumption) | exact ct_run _ _ _ ha hb) ?_
                  | refine AW_nil (fun (h : false = true) => by cases h) ?_
                  | refine AW_nil (fun (_ : true = true) => by kernel_rfl) ?_
                  | refine Wp_block ?_
                  | refine Wp_skip ?_
                  | refine Wp_exit ?_
                  | refine Wp_ret ?_
                exact le_of ⟨rfl, rfl, rfl, rfl, rfl, rfl, rfl, rfl, rfl, rfl, trivial⟩ ⟨rfl, rfl, rfl, rfl, rfl, rfl, rfl, rfl, rfl, rfl, trivial⟩ rfl
            · intro s3 hs3
              refine Wp_le hs3 ?_
              repeat first
                | refine Wp_seq ?_
                | refine Wp_region tm_mixed ?_
                | refine AW_move rfl rfl ?_
                | refine AW_assign rfl rfl ?_
                | refine AW_load rfl ty_num rfl rfl rfl rfl ?_
                | refine AW_load rfl ty_row rfl rfl rfl rfl ?_
                | refine AW_store ty_num rfl rfl rfl rfl rfl rfl rfl ?_
                | refine AW_store ty_row rfl rfl rfl rfl rfl rfl rfl ?_
                | refine AW_extract rfl rfl rfl ?_
                | refine AW_alloc rfl tz_num ?_
                | refine AW_alloc rfl tz_row ?_
                | refine AW_box rfl rfl (row := true) rfl (fun h => by cases h) rfl ?_
                | refine AW_not rfl rfl ?_
                | refine AW_build rfl tb_num rfl ?_
                | refine AW_build rfl tb_row rfl ?_
                | refine AW_call rfl rfl (by first | exact ct_right _ (Nat.le_of_ble_eq_true rfl) | exact ct_gzeroT _ (by assumption) | exact ct_gzeroF _ (by assumption) | exact ct_gsize _ (by assumption) | exact ct_run _ _ _ ha hb) ?_
                | refine AW_ints rfl tu_nums ti_num ti_size ti_zero rfl rfl rfl (by first | exact .cons _ _ _ _ _ rfl (.cons _ _ _ _ _ rfl (.nil _)) | exact .cons _ _ _ _ _ rfl (.cons _ _ _ _ _ rfl (.cons _ _ _ _ _ rfl (.cons _ _ _ _ _ rfl (.nil _)))) | exact .cons _ _ _ _ _ rfl (.cons _ _ _ _ _ rfl (.cons _ _ _ _ _ rfl (.nil _))) | exact .cons _ _ _ _ _ rfl (.cons _ _ _ _ _ rfl (.cons _ _ _ _ _ rfl (.cons _ _ _ _ _ rfl (.cons _ _ _ _ _ rfl (.nil _)))))) ?_
                | refine AW_load rfl ty_bool rfl rfl rfl rfl ?_ | refine AW_fieldAddr rfl tf_neg rfl rfl ?_ | refine AW_fieldAddr rfl tf_row0 rfl rfl ?_ | refine AW_fieldAddr rfl tf_row1 rfl rfl ?_ | refine AW_arrayAt rfl Try.underlying73 ts_num rfl rfl rfl rfl ?_
                | refine AW_pickT rfl rfl rfl ?_
                | refine AW_pickF rfl rfl rfl ?_
                | refine AW_skip rfl rfl rfl rfl ?_
                | refine AW_pickTg rfl rfl rfl rfl rfl rfl ?_
                | refine AW_pickFg rfl rfl rfl rfl rfl rfl ?_
                | refine AW_moveg rfl rfl rfl rfl rfl ?_
                | refine AW_notg rfl rfl rfl rfl rfl ?_
                | refine AW_eqg rfl rfl rfl rfl rfl rfl ?_
                | refine AW_eq rfl rfl rfl ?_
                | refine AW_loadg rfl rfl rfl rfl ty_num rfl rfl rfl rfl ?_
                | refine AW_loadg rfl rfl rfl rfl ty_row rfl rfl rfl rfl ?_
                | refine AW_callg rfl rfl rfl rfl rfl (by first | exact ct_right _ (Nat.le_of_ble_eq_true rfl) | exact ct_gzeroT _ (by assumption) | exact ct_gzeroF _ (by assumption) | exact ct_gsize _ (by assumption) | exact ct_run _ _ _ ha hb) ?_
                | refine AW_nil (fun (h : false = true) => by cases h) ?_
                | refine AW_nil (fun (_ : true = true) => by kernel_rfl) ?_
                | refine Wp_block ?_
                | refine Wp_skip ?_
                | refine Wp_exit ?_
                | refine Wp_ret ?_
              refine Wp_loop (fun p : Int × Int => ⟨[(2, .val (.one (.ptr 0 0))), (3, .val (.one (.ptr 1 0))), (4, .val (.one (.ptr 2 0))), (5, .val (.one (.ptr 3 0))), (6, .val (.one (.ptr 4 0))), (9, .val (.one (.ptr 6 0))), (10, .val (.one (.ptr 7 0))), (11, .val (.one (.ptr 8 0))), (12, .val (.one (.ptr 9 0))), (15, .val (.one (.ptr 10 0)))],
      [(0, 24, [.b (rawOf a).1, .st (magP (rawOf a).2)]), (1, 24, [.b (rawOf b).1, .st (magP (rawOf b).2)]), (2, 24, [.b false, .st (magP [])]), (3, 24, [.b false, .st (magP [])]), (4, 24, [.b false, .st (magP [])]),
       (6, 24, [.b (rawOf (gcdZ a b)).1, .st (magP (rawOf (gcdZ a b)).2)]), (7, 24, [.b (rawOf (p.1)).1, .st (magP (rawOf (p.1)).2)]), (8, 24, [.b (rawOf (p.2)).1, .st (magP (rawOf (p.2)).2)]), (9, 24, [.b (rawOf (bM a b)).1, .st (magP (rawOf (bM a b)).2)]), (10, 24, [.b (rawOf (bT a b)).1, .st (magP (rawOf (bT a b)).2)])], 11⟩) (fun p => Turn a b p.1 p.2) (fun p => (-p.1).toNat) (eX a b, eY a b) (Turn.start a b) (le_of ⟨rfl, rfl, rfl, rfl, rfl, rfl, rfl, rfl, rfl, rfl, trivial⟩ ⟨rfl, rfl, rfl, rfl, rfl, rfl, rfl, rfl, rfl, rfl, trivial⟩ rfl) ?_
              rintro ⟨x, y⟩ ht
              dsimp only at ht ⊢
              obtain ⟨lx, ly⟩ := ht.sizes hb0 ha hb
              have lx' : lc x.natAbs ≤ 4096 := by omega
              have ly' : lc y.natAbs ≤ 4096 := by omega
              repeat first
                | refine Wp_seq ?_
                | refine Wp_region tm_mixed ?_
                | refine AW_move rfl rfl ?_
                | refine AW_assign rfl rfl ?_
                | refine AW_load rfl ty_num rfl rfl rfl rfl ?_
                | refine AW_load rfl ty_row rfl rfl rfl rfl ?_
                | refine AW_store ty_num rfl rfl rfl rfl rfl rfl rfl ?_
                | refine AW_store ty_row rfl rfl rfl rfl rfl rfl rfl ?_
                | refine AW_extract rfl rfl rfl ?_
                | refine AW_alloc rfl tz_num ?_
                | refine AW_alloc rfl tz_row ?_
                | refine AW_box rfl rfl (row := true) rfl (fun h => by cases h) rfl ?_
                | refine AW_not rfl rfl ?_
                | refine AW_build rfl tb_num rfl ?_
                | refine AW_build rfl tb_row rfl ?_
                | refine AW_call rfl rfl (by first | exact ct_right _ (Nat.le_of_ble_eq_true rfl) | exact ct_gzeroT _ (by assumption) | exact ct_gzeroF _ (by assumption) | exact ct_gsize _ (by assumption) | exact ct_run _ _ _ ha hb) ?_
                | refine AW_ints rfl tu_nums ti_num ti_size ti_zero rfl rfl rfl (by first | exact .cons _ _ _ _ _ rfl (.cons _ _ _ _ _ rfl (.nil _)) | exact .cons _ _ _ _ _ rfl (.cons _ _ _ _ _ rfl (.cons _ _ _ _ _ rfl (.cons _ _ _ _ _ rfl (.nil _)))) | exact .cons _ _ _ _ _ rfl (.cons _ _ _ _ _ rfl (.cons _ _ _ _ _ rfl (.nil _))) | exact .cons _ _ _ _ _ rfl (.cons _ _ _ _ _ rfl (.cons _ _ _ _ _ rfl (.cons _ _ _ _ _ rfl (.cons _ _ _ _ _ rfl (.nil _)))))) ?_
                | refine AW_load rfl ty_bool rfl rfl rfl rfl ?_ | refine AW_fieldAddr rfl tf_neg rfl rfl ?_ | refine AW_fieldAddr rfl tf_row0 rfl rfl ?_ | refine AW_fieldAddr rfl tf_row1 rfl rfl ?_ | refine AW_arrayAt rfl Try.underlying73 ts_num rfl rfl rfl rfl ?_
                | refine AW_pickT rfl rfl rfl ?_
                | refine AW_pickF rfl rfl rfl ?_
                | refine AW_skip rfl rfl rfl rfl ?_
                | refine AW_pickTg rfl rfl rfl rfl rfl rfl ?_
                | refine AW_pickFg rfl rfl rfl rfl rfl rfl ?_
                | refine AW_moveg rfl rfl rfl rfl rfl ?_
                | refine AW_notg rfl rfl rfl rfl rfl ?_
                | refine AW_eqg rfl rfl rfl rfl rfl rfl ?_
                | refine AW_eq rfl rfl rfl ?_
                | refine AW_loadg rfl rfl rfl rfl ty_num rfl rfl rfl rfl ?_
                | refine AW_loadg rfl rfl rfl rfl ty_row rfl rfl rfl rfl ?_
                | refine AW_callg rfl rfl rfl rfl rfl (by first | exact ct_right _ (Nat.le_of_ble_eq_true rfl) | exact ct_gzeroT _ (by assumption) | exact ct_gzeroF _ (by assumption) | exact ct_gsize _ (by assumption) | exact ct_run _ _ _ ha hb) ?_
                | refine AW_nil (fun (h : false = true) => by cases h) ?_
                | refine AW_nil (fun (_ : true = true) => by kernel_rfl) ?_
                | refine Wp_block ?_
                | refine Wp_skip ?_
                | refine Wp_exit ?_
                | refine Wp_ret ?_
              refine Wp_cond rfl (fun hc => ?_) (fun hc => ?_)
              · have hx : x < 0 := of_decide_eq_true hc
                have ht2 := ht.up hb0 hx
                obtain ⟨mx, my⟩ := ht2.sizes hb0 ha hb
                have kA := ct_Add0 x (bM a b) lx' hM1 (by omega)
                have kS := ct_Sub0 y (bT a b) ly' hT2 (by omega)
                repeat first
                  | refine Wp_seq ?_
                  | refine Wp_region tm_mixed ?_
                  | refine AW_move rfl rfl ?_
                  | refine AW_assign rfl rfl ?_
                  | refine AW_load rfl ty_num rfl rfl rfl rfl ?_
                  | refine AW_load rfl ty_row rfl rfl rfl rfl ?_
                  | refine AW_store ty_num rfl rfl rfl rfl rfl rfl rfl ?_
                  | refine AW_store ty_row rfl rfl rfl rfl rfl rfl rfl ?_
                  | refine AW_extract rfl rfl rfl ?_
                  | refine AW_alloc rfl tz_num ?_
                  | refine AW_alloc rfl tz_row ?_
                  | refine AW_box rfl rfl (row := true) rfl (fun h => by cases h) rfl ?_
                  | refine AW_not rfl rfl ?_
                  | refine AW_build rfl tb_num rfl ?_
                  | refine AW_build rfl tb_row rfl ?_
                  | refine AW_call rfl rfl (by first | exact ct_right _ (Nat.le_of_ble_eq_true rfl) | exact ct_gzeroT _ (by assumption) | exact ct_gzeroF _ (by assumption) | exact ct_gsize _ (by assumption) | exact ct_run _ _ _ ha hb | exact kA | exact kS) ?_
                  | refine AW_ints rfl tu_nums ti_num ti_size ti_zero rfl rfl rfl (by first | exact .cons _ _ _ _ _ rfl (.cons _ _ _ _ _ rfl (.nil _)) | exact .cons _ _ _ _ _ rfl (.cons _ _ _ _ _ rfl (.cons _ _ _ _ _ rfl (.cons _ _ _ _ _ rfl (.nil _)))) | exact .cons _ _ _ _ _ rfl (.cons _ _ _ _ _ rfl (.cons _ _ _ _ _ rfl (.nil _))) | exact .cons _ _ _ _ _ rfl (.cons _ _ _ _ _ rfl (.cons _ _ _ _ _ rfl (.cons _ _ _ _ _ rfl (.cons _ _ _ _ _ rfl (.nil _)))))) ?_
                  | refine AW_load rfl ty_bool rfl rfl rfl rfl ?_ | refine AW_fieldAddr rfl tf_neg rfl rfl ?_ | refine AW_fieldAddr rfl tf_row0 rfl rfl ?_ | refine AW_fieldAddr rfl tf_row1 rfl rfl ?_ | refine AW_arrayAt rfl Try.underlying73 ts_num rfl rfl rfl rfl ?_
                  | refine AW_pickT rfl rfl rfl ?_
                  | refine AW_pickF rfl rfl rfl ?_
                  | refine AW_skip rfl rfl rfl rfl ?_
                  | refine AW_pickTg rfl rfl rfl rfl rfl rfl ?_
                  | refine AW_pickFg rfl rfl rfl rfl rfl rfl ?_
                  | refine AW_moveg rfl rfl rfl rfl rfl ?_
                  | refine AW_notg rfl rfl rfl rfl rfl ?_
                  | refine AW_eqg rfl rfl rfl rfl rfl rfl ?_
                  | refine AW_eq rfl rfl rfl ?_
                  | refine AW_loadg rfl rfl rfl rfl ty_num rfl rfl rfl rfl ?_
                  | refine AW_loadg rfl rfl rfl rfl ty_row rfl rfl rfl rfl ?_
                  | refine AW_callg rfl rfl rfl rfl rfl (by first | exact ct_right _ (Nat.le_of_ble_eq_true rfl) | exact ct_gzeroT _ (by assumption) | exact ct_gzeroF _ (by assumption) | exact ct_gsize _ (by assumption) | exact ct_run _ _ _ ha hb | exact kA | exact kS) ?_
                  | refine AW_nil (fun (h : false = true) => by cases h) ?_
                  | refine AW_nil (fun (_ : true = true) => by kernel_rfl) ?_
                  | refine Wp_block ?_
                  | refine Wp_skip ?_
                  | refine Wp_exit ?_
                  | refine Wp_ret ?_
                exact ⟨(x + bM a b, y - bT a b), ht2, le_of ⟨rfl, rfl, rfl, rfl, rfl, rfl, rfl, rfl, rfl, rfl, trivial⟩ ⟨rfl, rfl, rfl, rfl, rfl, rfl, rfl, rfl, rfl, rfl, trivial⟩ rfl, by have := bM_pos (a := a) hb0; show (-(x + bM a b)).toNat < (-x).toNat; omega⟩
              · have hx : ¬ x < 0 := of_decide_eq_false hc
                repeat first
                  | refine Wp_seq ?_
                  | refine Wp_region tm_mixed ?_
                  | refine AW_move rfl rfl ?_
                  | refine AW_assign rfl rfl ?_
                  | refine AW_load rfl ty_num rfl rfl rfl rfl ?_
                  | refine AW_load rfl ty_row rfl rfl rfl rfl ?_
                  | refine AW_store ty_num rfl rfl rfl rfl rfl rfl rfl ?_
                  | refine AW_store ty_row rfl rfl rfl rfl rfl rfl rfl ?_
                  | refine AW_extract rfl rfl rfl ?_
                  | refine AW_alloc rfl tz_num ?_
                  | refine AW_alloc rfl tz_row ?_
                  | refine AW_box rfl rfl (row := true) rfl (fun h => by cases h) rfl ?_
                  | refine AW_not rfl rfl ?_
                  | refine AW_build rfl tb_num rfl ?_
                  | refine AW_build rfl tb_row rfl ?_
                  | refine AW_call rfl rfl (by first | exact ct_right _ (Nat.le_of_ble_eq_true rfl) | exact ct_gzeroT _ (by assumption) | exact ct_gzeroF _ (by assumption) | exact ct_gsize _ (by assumption) | exact ct_run _ _ _ ha hb) ?_
                  | refine AW_ints rfl tu_nums ti_num ti_size ti_zero rfl rfl rfl (by first | exact .cons _ _ _ _ _ rfl (.cons _ _ _ _ _ rfl (.nil _)) | exact .cons _ _ _ _ _ rfl (.cons _ _ _ _ _ rfl (.cons _ _ _ _ _ rfl (.cons _ _ _ _ _ rfl (.nil _)))) | exact .cons _ _ _ _ _ rfl (.cons _ _ _ _ _ rfl (.cons _ _ _ _ _ rfl (.nil _))) | exact .cons _ _ _ _ _ rfl (.cons _ _ _ _ _ rfl (.cons _ _ _ _ _ rfl (.cons _ _ _ _ _ rfl (.cons _ _ _ _ _ rfl (.nil _)))))) ?_
                  | refine AW_load rfl ty_bool rfl rfl rfl rfl ?_ | refine AW_fieldAddr rfl tf_neg rfl rfl ?_ | refine AW_fieldAddr rfl tf_row0 rfl rfl ?_ | refine AW_fieldAddr rfl tf_row1 rfl rfl ?_ | refine AW_arrayAt rfl Try.underlying73 ts_num rfl rfl rfl rfl ?_
                  | refine AW_pickT rfl rfl rfl ?_
                  | refine AW_pickF rfl rfl rfl ?_
                  | refine AW_skip rfl rfl rfl rfl ?_
                  | refine AW_pickTg rfl rfl rfl rfl rfl rfl ?_
                  | refine AW_pickFg rfl rfl rfl rfl rfl rfl ?_
                  | refine AW_moveg rfl rfl rfl rfl rfl ?_
                  | refine AW_notg rfl rfl rfl rfl rfl ?_
                  | refine AW_eqg rfl rfl rfl rfl rfl rfl ?_
                  | refine AW_eq rfl rfl rfl ?_
                  | refine AW_loadg rfl rfl rfl rfl ty_num rfl rfl rfl rfl ?_
                  | refine AW_loadg rfl rfl rfl rfl ty_row rfl rfl rfl rfl ?_
                  | refine AW_callg rfl rfl rfl rfl rfl (by first | exact ct_right _ (Nat.le_of_ble_eq_true rfl) | exact ct_gzeroT _ (by assumption) | exact ct_gzeroF _ (by assumption) | exact ct_gsize _ (by assumption) | exact ct_run _ _ _ ha hb) ?_
                  | refine AW_nil (fun (h : false = true) => by cases h) ?_
                  | refine AW_nil (fun (_ : true = true) => by kernel_rfl) ?_
                  | refine Wp_block ?_
                  | refine Wp_skip ?_
                  | refine Wp_exit ?_
                  | refine Wp_ret ?_
                refine Wp_loop (fun p : Int × Int => ⟨[(2, .val (.one (.ptr 0 0))), (3, .val (.one (.ptr 1 0))), (4, .val (.one (.ptr 2 0))), (5, .val (.one (.ptr 3 0))), (6, .val (.one (.ptr 4 0))), (9, .val (.one (.ptr 6 0))), (10, .val (.one (.ptr 7 0))), (11, .val (.one (.ptr 8 0))), (12, .val (.one (.ptr 9 0))), (15, .val (.one (.ptr 10 0)))],
      [(0, 24, [.b (rawOf a).1, .st (magP (rawOf a).2)]), (1, 24, [.b (rawOf b).1, .st (magP (rawOf b).2)]), (2, 24, [.b false, .st (magP [])]), (3, 24, [.b false, .st (magP [])]), (4, 24, [.b false, .st (magP [])]),
       (6, 24, [.b (rawOf (gcdZ a b)).1, .st (magP (rawOf (gcdZ a b)).2)]), (7, 24, [.b (rawOf (p.1)).1, .st (magP (rawOf (p.1)).2)]), (8, 24, [.b (rawOf (p.2)).1, .st (magP (rawOf (p.2)).2)]), (9, 24, [.b (rawOf (bM a b)).1, .st (magP (rawOf (bM a b)).2)]), (10, 24, [.b (rawOf (bT a b)).1, .st (magP (rawOf (bT a b)).2)])], 11⟩) (fun p => Turn a b p.1 p.2 ∧ 0 ≤ p.1) (fun p => p.1.toNat) (x, y) ⟨ht, by show 0 ≤ x; omega⟩ (le_of ⟨rfl, rfl, rfl, rfl, rfl, rfl, rfl, rfl, rfl, rfl, trivial⟩ ⟨rfl, rfl, rfl, rfl, rfl, rfl, rfl, rfl, rfl, rfl, trivial⟩ rfl) ?_
                clear ht lx ly lx' ly' hx hc
                rintro ⟨x, y⟩ ⟨ht, hx⟩
                dsimp only at ht hx ⊢
                obtain ⟨lx, ly⟩ := ht.sizes hb0 ha hb
                have lx' : lc x.natAbs ≤ 4096 := by omega
                have ly' : lc y.natAbs ≤ 4096 := by omega
                have kC := ct_Cmp x (bM a b) lx' hM1
                repeat first
                  | refine Wp_seq ?_
                  | refine Wp_region tm_mixed ?_
                  | refine AW_move rfl rfl ?_
                  | refine AW_assign rfl rfl ?_
                  | refine AW_load rfl ty_num rfl rfl rfl rfl ?_
                  | refine AW_load rfl ty_row rfl rfl rfl rfl ?_
                  | refine AW_store ty_num rfl rfl rfl rfl rfl rfl rfl ?_
                  | refine AW_store ty_row rfl rfl rfl rfl rfl rfl rfl ?_
                  | refine AW_extract rfl rfl rfl ?_
                  | refine AW_alloc rfl tz_num ?_
                  | refine AW_alloc rfl tz_row ?_
                  | refine AW_box rfl rfl (row := true) rfl (fun h => by cases h) rfl ?_
                  | refine AW_not rfl rfl ?_
                  | refine AW_build rfl tb_num rfl ?_
                  | refine AW_build rfl tb_row rfl ?_
                  | refine AW_call rfl rfl (by first | exact ct_right _ (Nat.le_of_ble_eq_true rfl) | exact ct_gzeroT _ (by assumption) | exact ct_gzeroF _ (by assumption) | exact ct_gsize _ (by assumption) | exact ct_run _ _ _ ha hb | exact kC) ?_
                  | refine AW_ints rfl tu_nums ti_num ti_size ti_zero rfl rfl rfl (by first | exact .cons _ _ _ _ _ rfl (.cons _ _ _ _ _ rfl (.nil _)) | exact .cons _ _ _ _ _ rfl (.cons _ _ _ _ _ rfl (.cons _ _ _ _ _ rfl (.cons _ _ _ _ _ rfl (.nil _)))) | exact .cons _ _ _ _ _ rfl (.cons _ _ _ _ _ rfl (.cons _ _ _ _ _ rfl (.nil _))) | exact .cons _ _ _ _ _ rfl (.cons _ _ _ _ _ rfl (.cons _ _ _ _ _ rfl (.cons _ _ _ _ _ rfl (.cons _ _ _ _ _ rfl (.nil _)))))) ?_
                  | refine AW_load rfl ty_bool rfl rfl rfl rfl ?_ | refine AW_fieldAddr rfl tf_neg rfl rfl ?_ | refine AW_fieldAddr rfl tf_row0 rfl rfl ?_ | refine AW_fieldAddr rfl tf_row1 rfl rfl ?_ | refine AW_arrayAt rfl Try.underlying73 ts_num rfl rfl rfl rfl ?_
                  | refine AW_pickT rfl rfl rfl ?_
                  | refine AW_pickF rfl rfl rfl ?_
                  | refine AW_skip rfl rfl rfl rfl ?_
                  | refine AW_pickTg rfl rfl rfl rfl rfl rfl ?_
                  | refine AW_pickFg rfl rfl rfl rfl rfl rfl ?_
                  | refine AW_moveg rfl rfl rfl rfl rfl ?_
                  | refine AW_notg rfl rfl rfl rfl rfl ?_
                  | refine AW_eqg rfl rfl rfl rfl rfl rfl ?_
                  | refine AW_eq rfl rfl rfl ?_
                  | refine AW_loadg rfl rfl rfl rfl ty_num rfl rfl rfl rfl ?_
                  | refine AW_loadg rfl rfl rfl rfl ty_row rfl rfl rfl rfl ?_
                  | refine AW_callg rfl rfl rfl rfl rfl (by first | exact ct_right _ (Nat.le_of_ble_eq_true rfl) | exact ct_gzeroT _ (by assumption) | exact ct_gzeroF _ (by assumption) | exact ct_gsize _ (by assumption) | exact ct_run _ _ _ ha hb | exact kC) ?_
                  | refine AW_nil (fun (h : false = true) => by cases h) ?_
                  | refine AW_nil (fun (_ : true = true) => by kernel_rfl) ?_
                  | refine Wp_block ?_
                  | refine Wp_skip ?_
                  | refine Wp_exit ?_
                  | refine Wp_ret ?_
                refine AW_lt rfl rfl rfl ?_
                repeat first
                  | refine Wp_seq ?_
                  | refine Wp_region tm_mixed ?_
                  | refine AW_move rfl rfl ?_
                  | refine AW_assign rfl rfl ?_
                  | refine AW_load rfl ty_num rfl rfl rfl rfl ?_
                  | refine AW_load rfl ty_row rfl rfl rfl rfl ?_
                  | refine AW_store ty_num rfl rfl rfl rfl rfl rfl rfl ?_
                  | refine AW_store ty_row rfl rfl rfl rfl rfl rfl rfl ?_
                  | refine AW_extract rfl rfl rfl ?_
                  | refine AW_alloc rfl tz_num ?_
                  | refine AW_alloc rfl tz_row ?_
                  | refine AW_box rfl rfl (row := true) rfl (fun h => by cases h) rfl ?_
                  | refine AW_not rfl rfl ?_
                  | refine AW_build rfl tb_num rfl ?_
                  | refine AW_build rfl tb_row rfl ?_
                  | refine AW_call rfl rfl (by first | exact ct_right _ (Nat.le_of_ble_eq_true rfl) | exact ct_gzeroT _ (by assumption) | exact ct_gzeroF _ (by assumption) | exact ct_gsize _ (by assumption) | exact ct_run _ _ _ ha hb) ?_
                  | refine AW_ints rfl tu_nums ti_num ti_size ti_zero rfl rfl rfl (by first | exact .cons _ _ _ _ _ rfl (.cons _ _ _ _ _ rfl (.nil _)) | exact .cons _ _ _ _ _ rfl (.cons _ _ _ _ _ rfl (.cons _ _ _ _ _ rfl (.cons _ _ _ _ _ rfl (.nil _)))) | exact .cons _ _ _ _ _ rfl (.cons _ _ _ _ _ rfl (.cons _ _ _ _ _ rfl (.nil _))) | exact .cons _ _ _ _ _ rfl (.cons _ _ _ _ _ rfl (.cons _ _ _ _ _ rfl (.cons _ _ _ _ _ rfl (.cons _ _ _ _ _ rfl (.nil _)))))) ?_
                  | refine AW_load rfl ty_bool rfl rfl rfl rfl ?_ | refine AW_fieldAddr rfl tf_neg rfl rfl ?_ | refine AW_fieldAddr rfl tf_row0 rfl rfl ?_ | refine AW_fieldAddr rfl tf_row1 rfl rfl ?_ | refine AW_arrayAt rfl Try.underlying73 ts_num rfl rfl rfl rfl ?_
                  | refine AW_pickT rfl rfl rfl ?_
                  | refine AW_pickF rfl rfl rfl ?_
                  | refine AW_skip rfl rfl rfl rfl ?_
                  | refine AW_pickTg rfl rfl rfl rfl rfl rfl ?_
                  | refine AW_pickFg rfl rfl rfl rfl rfl rfl ?_
                  | refine AW_moveg rfl rfl rfl rfl rfl ?_
                  | refine AW_notg rfl rfl rfl rfl rfl ?_
                  | refine AW_eqg rfl rfl rfl rfl rfl rfl ?_
                  | refine AW_eq rfl rfl rfl ?_
                  | refine AW_loadg rfl rfl rfl rfl ty_num rfl rfl rfl rfl ?_
                  | refine AW_loadg rfl rfl rfl rfl ty_row rfl rfl rfl rfl ?_
                  | refine AW_callg rfl rfl rfl rfl rfl (by first | exact ct_right _ (Nat.le_of_ble_eq_true rfl) | exact ct_gzeroT _ (by assumption) | exact ct_gzeroF _ (by assumption) | exact ct_gsize _ (by assumption) | exact ct_run _ _ _ ha hb) ?_
                  | refine AW_nil (fun (h : false = true) => by cases h) ?_
                  | refine AW_nil (fun (_ : true = true) => by kernel_rfl) ?_
                  | refine Wp_block ?_
                  | refine Wp_skip ?_
                  | refine Wp_exit ?_
                  | refine Wp_ret ?_
                refine Wp_cond rfl (fun hc => ?_) (fun hc => ?_)
                · have hlt : x < bM a b := cmpZ_low.1 (of_decide_eq_true hc)
                  obtain ⟨e1, e2⟩ := ht.last hb0 hx hlt
                  repeat first
                    | refine Wp_seq ?_
                    | refine Wp_region tm_mixed ?_
                    | refine AW_move rfl rfl ?_
                    | refine AW_assign rfl rfl ?_
                    | refine AW_load rfl ty_num rfl rfl rfl rfl ?_
                    | refine AW_load rfl ty_row rfl rfl rfl rfl ?_
                    | refine AW_store ty_num rfl rfl rfl rfl rfl rfl rfl ?_
                    | refine AW_store ty_row rfl rfl rfl rfl rfl rfl rfl ?_
                    | refine AW_extract rfl rfl rfl ?_
                    | refine AW_alloc rfl tz_num ?_
                    | refine AW_alloc rfl tz_row ?_
                    | refine AW_box rfl rfl (row := true) rfl (fun h => by cases h) rfl ?_
                    | refine AW_not rfl rfl ?_
                    | refine AW_build rfl tb_num rfl ?_
                    | refine AW_build rfl tb_row rfl ?_
                    | refine AW_call rfl rfl (by first | exact ct_right _ (Nat.le_of_ble_eq_true rfl) | exact ct_gzeroT _ (by assumption) | exact ct_gzeroF _ (by assumption) | exact ct_gsize _ (by assumption) | exact ct_run _ _ _ ha hb) ?_
                    | refine AW_ints rfl tu_nums ti_num ti_size ti_zero rfl rfl rfl (by first | exact .cons _ _ _ _ _ rfl (.cons _ _ _ _ _ rfl (.nil _)) | exact .cons _ _ _ _ _ rfl (.cons _ _ _ _ _ rfl (.cons _ _ _ _ _ rfl (.cons _ _ _ _ _ rfl (.nil _)))) | exact .cons _ _ _ _ _ rfl (.cons _ _ _ _ _ rfl (.cons _ _ _ _ _ rfl (.nil _))) | exact .cons _ _ _ _ _ rfl (.cons _ _ _ _ _ rfl (.cons _ _ _ _ _ rfl (.cons _ _ _ _ _ rfl (.cons _ _ _ _ _ rfl (.nil _)))))) ?_
                    | refine AW_load rfl ty_bool rfl rfl rfl rfl ?_ | refine AW_fieldAddr rfl tf_neg rfl rfl ?_ | refine AW_fieldAddr rfl tf_row0 rfl rfl ?_ | refine AW_fieldAddr rfl tf_row1 rfl rfl ?_ | refine AW_arrayAt rfl Try.underlying73 ts_num rfl rfl rfl rfl ?_
                    | refine AW_pickT rfl rfl rfl ?_
                    | refine AW_pickF rfl rfl rfl ?_
                    | refine AW_skip rfl rfl rfl rfl ?_
                    | refine AW_pickTg rfl rfl rfl rfl rfl rfl ?_
                    | refine AW_pickFg rfl rfl rfl rfl rfl rfl ?_
                    | refine AW_moveg rfl rfl rfl rfl rfl ?_
                    | refine AW_notg rfl rfl rfl rfl rfl ?_
                    | refine AW_eqg rfl rfl rfl rfl rfl rfl ?_
                    | refine AW_eq rfl rfl rfl ?_
                    | refine AW_loadg rfl rfl rfl rfl ty_num rfl rfl rfl rfl ?_
                    | refine AW_loadg rfl rfl rfl rfl ty_row rfl rfl rfl rfl ?_
                    | refine AW_callg rfl rfl rfl rfl rfl (by first | exact ct_right _ (Nat.le_of_ble_eq_true rfl) | exact ct_gzeroT _ (by assumption) | exact ct_gzeroF _ (by assumption) | exact ct_gsize _ (by assumption) | exact ct_run _ _ _ ha hb) ?_
                    | refine AW_nil (fun (h : false = true) => by cases h) ?_
                    | refine AW_nil (fun (_ : true = true) => by kernel_rfl) ?_
                    | refine Wp_block ?_
                    | refine Wp_skip ?_
                    | refine Wp_exit ?_
                    | refine Wp_ret ?_
                  exact ⟨.inr rfl, _, .cell _ _ _ _ _ _ _ _ _ _ _ ty_num rfl rfl rfl (.cell _ _ _ _ _ _ _ _ _ _ _ ty_num rfl rfl rfl (.cell _ _ _ _ _ _ _ _ _ _ _ ty_num rfl rfl rfl (.tmp _ _ _ _ rfl .nil))), by
                    rw [← e1, ← e2]; rfl⟩
                · have hge : bM a b ≤ x := by have : ¬ x < bM a b := fun h => of_decide_eq_false hc (cmpZ_low.2 h)
                                              omega
                  have ht2 := ht.down hb0 hge
                  obtain ⟨mx, my⟩ := ht2.sizes hb0 ha hb
                  have kA := ct_Add0 y (bT a b) ly' hT2 (by omega)
                  have kS := ct_Sub0 x (bM a b) lx' hM1 (by omega)
                  repeat first
                    | refine Wp_seq ?_
                    | refine Wp_region tm_mixed ?_
                    | refine AW_move rfl rfl ?_
                    | refine AW_assign rfl rfl ?_
                    | refine AW_load rfl ty_num rfl rfl rfl rfl ?_
                    | refine AW_load rfl ty_row rfl rfl rfl rfl ?_
                    | refine AW_store ty_num rfl rfl rfl rfl rfl rfl rfl ?_
                    | refine AW_store ty_row rfl rfl rfl rfl rfl rfl rfl ?_
                    | refine AW_extract rfl rfl rfl ?_
                    | refine AW_alloc rfl tz_num ?_
                    | refine AW_alloc rfl tz_row ?_
                    | refine AW_box rfl rfl (row := true) rfl (fun h => by cases h) rfl ?_
                    | refine AW_not rfl rfl ?_
                    | refine AW_build rfl tb_num rfl ?_
                    | refine AW_build rfl tb_row rfl ?_
                    | refine AW_call rfl rfl (by first | exact ct_right _ (Nat.le_of_ble_eq_true rfl) | exact ct_gzeroT _ (by assumption) | exact ct_gzeroF _ (by assumption) | exact ct_gsize _ (by assumption) | exact ct_run _ _ _ ha hb | exact kA | exact kS) ?_
                    | refine AW_ints rfl tu_nums ti_num ti_size ti_zero rfl rfl rfl (by first | exact .cons _ _ _ _ _ rfl (.cons _ _ _ _ _ rfl (.nil _)) | exact .cons _ _ _ _ _ rfl (.cons _ _ _ _ _ rfl (.cons _ _ _ _ _ rfl (.cons _ _ _ _ _ rfl (.nil _)))) | exact .cons _ _ _ _ _ rfl (.cons _ _ _ _ _ rfl (.cons _ _ _ _ _ rfl (.nil _))) | exact .cons _ _ _ _ _ rfl (.cons _ _ _ _ _ rfl (.cons _ _ _ _ _ rfl (.cons _ _ _ _ _ rfl (.cons _ _ _ _ _ rfl (.nil _)))))) ?_
                    | refine AW_load rfl ty_bool rfl rfl rfl rfl ?_ | refine AW_fieldAddr rfl tf_neg rfl rfl ?_ | refine AW_fieldAddr rfl tf_row0 rfl rfl ?_ | refine AW_fieldAddr rfl tf_row1 rfl rfl ?_ | refine AW_arrayAt rfl Try.underlying73 ts_num rfl rfl rfl rfl ?_
                    | refine AW_pickT rfl rfl rfl ?_
                    | refine AW_pickF rfl rfl rfl ?_
                    | refine AW_skip rfl rfl rfl rfl ?_
                    | refine AW_pickTg rfl rfl rfl rfl rfl rfl ?_
                    | refine AW_pickFg rfl rfl rfl rfl rfl rfl ?_
                    | refine AW_moveg rfl rfl rfl rfl rfl ?_
                    | refine AW_notg rfl rfl rfl rfl rfl ?_
                    | refine AW_eqg rfl rfl rfl rfl rfl rfl ?_
                    | refine AW_eq rfl rfl rfl ?_
                    | refine AW_loadg rfl rfl rfl rfl ty_num rfl rfl rfl rfl ?_
                    | refine AW_loadg rfl rfl rfl rfl ty_row rfl rfl rfl rfl ?_
                    | refine AW_callg rfl rfl rfl rfl rfl (by first | exact ct_right _ (Nat.le_of_ble_eq_true rfl) | exact ct_gzeroT _ (by assumption) | exact ct_gzeroF _ (by assumption) | exact ct_gsize _ (by assumption) | exact ct_run _ _ _ ha hb | exact kA | exact kS) ?_
                    | refine AW_nil (fun (h : false = true) => by cases h) ?_
                    | refine AW_nil (fun (_ : true = true) => by kernel_rfl) ?_
                    | refine Wp_block ?_
                    | refine Wp_skip ?_
                    | refine Wp_exit ?_
                    | refine Wp_ret ?_
                  exact ⟨(x - bM a b, y + bT a b), ⟨ht2, by show 0 ≤ x - bM a b; omega⟩, le_of ⟨rfl, rfl, rfl, rfl, rfl, rfl, rfl, rfl, rfl, rfl, trivial⟩ ⟨rfl, rfl, rfl, rfl, rfl, rfl, rfl, rfl, rfl, rfl, trivial⟩ rfl, by have := bM_pos (a := a) hb0; show (x - bM a b).toNat < x.toNat; omega⟩
end Go.Proofs.Ytonbhpadoplpkaa
/- The package gcd, by the abstract machine: Join. -/
namespace Go.Proofs.Ytonbhpadoplpkaa
open Go.RowKit Go.Deep
/-- What Join reckons, the lesser modulus first. -/
def jX (r m s n : Int) : Int := (bzX (n.tdiv (gcdZ m n)) (m.tdiv (gcdZ m n)) * ((r % m - s % n).tdiv (gcdZ m n) % m.tdiv (gcdZ m n)) % m.tdiv (gcdZ m n)) * n + s % n
def joinX (r m s n : Int) : Int := if n < m then jX s n r m else jX r m s n
def joins (r m s n : Int) : Prop := (r % m - s % n).tmod (gcdZ m n) = 0
instance (r m s n : Int) : Decidable (joins r m s n) := by unfold joins; infer_instance
theorem gcdZ_comm (a b : Int) : gcdZ a b = gcdZ b a := by unfold gcdZ; rw [Nat.gcd_comm]
theorem joins_comm (r m s n : Int) : joins s n r m ↔ joins r m s n := by
  unfold joins
  rw [gcdZ_comm n m, show s % n - r % m = -(r % m - s % n) by omega, Int.neg_tmod]
  omega
theorem lcmZ_comm {a b : Int} (_ha : a ≠ 0) (_hb : b ≠ 0) : lcmZ a b = lcmZ b a := by
  unfold lcmZ
  rw [← Int.natCast_mul, ← Int.natCast_mul, Nat.gcd_comm b.natAbs, ← Nat.mul_div_assoc _ (Nat.gcd_dvd_right _ _), ← Nat.mul_div_assoc _ (Nat.gcd_dvd_left _ _), Nat.mul_comm]
/-- What stands behind the turning about. -/
structure JS (r m s n r1 m1 s1 n1 : Int) : Prop where
  hr : lc r1.natAbs ≤ 90
  hm : lc m1.natAbs ≤ 90
  hs : lc s1.natAbs ≤ 90
  hn : lc n1.natAbs ≤ 90
  m0 : 0 < m1
  n0 : 0 < n1
  j : joins r1 m1 s1 n1 ↔ joins r m s n
  x : jX r1 m1 s1 n1 = joinX r m s n
  l : lcmZ m1 n1 = lcmZ m n
theorem bzX_size {a b : Int} (h : b ≠ 0) : (bzX a b).natAbs ≤ b.natAbs := by
  unfold bzX
  rw [if_neg h]
  have h1 := bM_pos (a := a) h
  have h2 := Int.emod_nonneg (eX a b) (show bM a b ≠ 0 by omega)
  have h3 := Int.emod_lt_of_pos (eX a b) h1
  have h4 := bM_le a b
  omega
theorem cmpZ_high {x y : Int} : 0 < cmpZ x y ↔ y < x := by
  rcases Int.lt_trichotomy x y with h | h | h
  · rw [cmpZ_lt h]; omega
  · subst h; rw [cmpZ_eq]; omega
  · rw [cmpZ_gt h]; omega
theorem mod_size {x y : Int} (h : 0 < y) : (x % y).natAbs ≤ y.natAbs := by
  have h1 := Int.emod_nonneg x (show y ≠ 0 by omega)
  have h2 := Int.emod_lt_of_pos x h
  omega
theorem lc_sub {x y : Int} {k : Nat} (hx : lc x.natAbs ≤ k) (hy : lc y.natAbs ≤ k) : lc (x - y).natAbs ≤ k + 1 := by
  have h1 : (x - y).natAbs ≤ x.natAbs + y.natAbs := by omega
  have h2 := lc_mono h1
  have h3 := lc_add x.natAbs y.natAbs
  omega
theorem lc_plus {x y : Int} {k : Nat} (hx : lc x.natAbs ≤ k) (hy : lc y.natAbs ≤ k) : lc (x + y).natAbs ≤ k + 1 := by
  have h1 : (x + y).natAbs ≤ x.natAbs + y.natAbs := by omega
  have h2 := lc_mono h1
  have h3 := lc_add x.natAbs y.natAbs
  omega
theorem lc_tdiv {x y : Int} {k : Nat} (hx : lc x.natAbs ≤ k) : lc (x.tdiv y).natAbs ≤ k := by
  rw [Int.natAbs_tdiv]; exact Nat.le_trans (lc_mono (Nat.div_le_self _ _)) hx
theorem lc_times {x y : Int} {j k : Nat} (hx : lc x.natAbs ≤ j) (hy : lc y.natAbs ≤ k) : lc (x * y).natAbs ≤ j + k := by
  rw [Int.natAbs_mul]; have := lc_mul x.natAbs y.natAbs; omega
set_option maxHeartbeats 1000000 in
set_option maxRecDepth 100000 in
theorem ct_gJoin (r m s n : Int) (hr : lc r.natAbs ≤ 90) (hm : lc m.natAbs ≤ 90) (hs : lc s.natAbs ≤ 90) (hn : lc n.natAbs ≤ 90) (m0 : 0 < m) (n0 : 0 < n) :
    Ct Try.prog 31 [aZ r, aZ m, aZ s, aZ n] (.tup (if joins r m s n then [zZ (joinX r m s n), zZ (lcmZ m n), aI 0] else [aInt (false, []), aInt (false, []), aI 300])) := by
  have kR := ct_right [rawOf r, rawOf m, rawOf s, rawOf n] (Nat.le_of_ble_eq_true rfl)
  have e0 : [rawOf r, rawOf m, rawOf s, rawOf n].all rightInt = true := by
    simp [right_raw (Nat.le_trans hr (by decide)), right_raw (Nat.le_trans hm (by decide)), right_raw (Nat.le_trans hs (by decide)), right_raw (Nat.le_trans hn (by decide))]
  rw [e0] at kR
  have hM : mkAV false [AC.b (rawOf m).1] = aB false := by show AV.one (.b (decide (m < 0))) = _; rw [decide_eq_false (by omega)]
  have hN : mkAV false [AC.b (rawOf n).1] = aB false := by show AV.one (.b (decide (n < 0))) = _; rw [decide_eq_false (by omega)]
  have m1 : m ≠ 0 := by omega
  have n1 : n ≠ 0 := by omega
  have kC := ct_Cmp m n (by omega) (by omega)
  refine ct_of_wp [.cell 8 24, .cell 9 24, .tmp 10] [(0, aZ r), (1, aZ m), (2, aZ s), (3, aZ n)] 168 Try.func31 rfl rfl rfl rfl rfl rfl rfl (by split <;> rfl) ?_
  intro G0 w0
  repeat first
    | refine Wp_seq ?_
    | refine Wp_region tm_mixed ?_
    | refine AW_move rfl rfl ?_
    | refine AW_assign rfl rfl ?_
    | refine AW_load rfl ty_num rfl rfl rfl rfl ?_
    | refine AW_store ty_num rfl rfl rfl rfl rfl rfl rfl ?_
    | refine AW_extract rfl rfl rfl ?_
    | refine AW_alloc rfl tz_num ?_
    | refine AW_box rfl rfl (row := true) rfl (fun h => by cases h) rfl ?_
    | refine AW_not rfl rfl ?_
    | refine AW_build rfl tb_num rfl ?_
    | refine AW_call rfl rfl (by first | exact kR | exact ct_gzeroF _ (by assumption) | exact kC) ?_
    | refine AW_ints rfl tu_nums ti_num ti_size ti_zero rfl rfl rfl (by first | exact .cons _ _ _ _ _ rfl (.cons _ _ _ _ _ rfl (.nil _)) | exact .cons _ _ _ _ _ rfl (.cons _ _ _ _ _ rfl (.cons _ _ _ _ _ rfl (.cons _ _ _ _ _ rfl (.nil _)))) | exact .cons _ _ _ _ _ rfl (.cons _ _ _ _ _ rfl (.cons _ _ _ _ _ rfl (.nil _))) | exact .cons _ _ _ _ _ rfl (.cons _ _ _ _ _ rfl (.cons _ _ _ _ _ rfl (.cons _ _ _ _ _ rfl (.cons _ _ _ _ _ rfl (.nil _)))))) ?_
    | refine AW_loadg rfl rfl rfl rfl ty_bool rfl rfl rfl hM ?_ | refine AW_loadg rfl rfl rfl rfl ty_bool rfl rfl rfl hN ?_ | refine AW_fieldAddrg rfl rfl rfl rfl tf_neg rfl rfl ?_ | refine AW_gt rfl rfl rfl ?_ | refine AW_ne rfl rfl rfl ?_
    | refine AW_pickT rfl rfl rfl ?_
    | refine AW_pickF rfl rfl rfl ?_
    | refine AW_skip rfl rfl rfl rfl ?_
    | refine AW_pickTg rfl rfl rfl rfl rfl rfl ?_
    | refine AW_pickFg rfl rfl rfl rfl rfl rfl ?_
    | refine AW_moveg rfl rfl rfl rfl rfl ?_
    | refine AW_notg rfl rfl rfl rfl rfl ?_
    | refine AW_eqg rfl rfl rfl rfl rfl rfl ?_
    | refine AW_eq rfl rfl rfl ?_
    | refine AW_loadg rfl rfl rfl rfl ty_num rfl rfl rfl rfl ?_
    | refine AW_callg rfl rfl rfl rfl rfl (by first | exact kR | exact ct_gzeroF _ (by assumption) | exact kC) ?_
    | refine AW_nil (fun (h : false = true) => by cases h) ?_
    | refine AW_nil (fun (_ : true = true) => by kernel_rfl) ?_
    | refine Wp_block ?_
    | refine Wp_skip ?_
    | refine Wp_exit ?_
    | refine Wp_ret ?_
  refine Wp_condF rfl ?_
  repeat first
    | refine Wp_seq ?_
    | refine Wp_region tm_mixed ?_
    | refine AW_move rfl rfl ?_
    | refine AW_assign rfl rfl ?_
    | refine AW_load rfl ty_num rfl rfl rfl rfl ?_
    | refine AW_store ty_num rfl rfl rfl rfl rfl rfl rfl ?_
    | refine AW_extract rfl rfl rfl ?_
    | refine AW_alloc rfl tz_num ?_
    | refine AW_box rfl rfl (row := true) rfl (fun h => by cases h) rfl ?_
    | refine AW_not rfl rfl ?_
    | refine AW_build rfl tb_num rfl ?_
    | refine AW_call rfl rfl (by first | exact kR | exact ct_gzeroF _ (by assumption) | exact kC) ?_
    | refine AW_ints rfl tu_nums ti_num ti_size ti_zero rfl rfl rfl (by first | exact .cons _ _ _ _ _ rfl (.cons _ _ _ _ _ rfl (.nil _)) | exact .cons _ _ _ _ _ rfl (.cons _ _ _ _ _ rfl (.cons _ _ _ _ _ rfl (.cons _ _ _ _ _ rfl (.nil _)))) | exact .cons _ _ _ _ _ rfl (.cons _ _ _ _ _ rfl (.cons _ _ _ _ _ rfl (.nil _))) | exact .cons _ _ _ _ _ rfl (.cons _ _ _ _ _ rfl (.cons _ _ _ _ _ rfl (.cons _ _ _ _ _ rfl (.cons _ _ _ _ _ rfl (.nil _)))))) ?_
    | refine AW_loadg rfl rfl rfl rfl ty_bool rfl rfl rfl hM ?_ | refine AW_loadg rfl rfl rfl rfl ty_bool rfl rfl rfl hN ?_ | refine AW_fieldAddrg rfl rfl rfl rfl tf_neg rfl rfl ?_ | refine AW_gt rfl rfl rfl ?_ | refine AW_ne rfl rfl rfl ?_
    | refine AW_pickT rfl rfl rfl ?_
    | refine AW_pickF rfl rfl rfl ?_
    | refine AW_skip rfl rfl rfl rfl ?_
    | refine AW_pickTg rfl rfl rfl rfl rfl rfl ?_
    | refine AW_pickFg rfl rfl rfl rfl rfl rfl ?_
    | refine AW_moveg rfl rfl rfl rfl rfl ?_
    | refine AW_notg rfl rfl rfl rfl rfl ?_
    | refine AW_eqg rfl rfl rfl rfl rfl rfl ?_
    | refine AW_eq rfl rfl rfl ?_
    | refine AW_loadg rfl rfl rfl rfl ty_num rfl rfl rfl rfl ?_
    | refine AW_callg rfl rfl rfl rfl rfl (by first | exact kR | exact ct_gzeroF _ (by assumption) | exact kC) ?_
    | refine AW_nil (fun (h : false = true) => by cases h) ?_
    | refine AW_nil (fun (_ : true = true) => by kernel_rfl) ?_
    | refine Wp_block ?_
    | refine Wp_skip ?_
    | refine Wp_exit ?_
    | refine Wp_ret ?_
  refine Wp_to (fun s' => ∃ r1 m1 s1 n1 : Int, JS r m s n r1 m1 s1 n1 ∧ Le s' ⟨[(4, .val (.one (.ptr 0 0))), (5, .val (.one (.ptr 1 0))), (6, .val (.one (.ptr 2 0))), (7, .val (.one (.ptr 3 0))), (8, .val (.one (.ptr 4 0))), (9, .val (.one (.ptr 5 0)))],
    [(0, 24, [.b (rawOf r1).1, .st (magP (rawOf r1).2)]), (1, 24, [.b (rawOf m1).1, .st (magP (rawOf m1).2)]), (2, 24, [.b (rawOf s1).1, .st (magP (rawOf s1).2)]), (3, 24, [.b (rawOf n1).1, .st (magP (rawOf n1).2)]), (4, 24, [.b false, .st (magP [])]), (5, 24, [.b false, .st (magP [])])], 6⟩) ?_ ?_
  · refine Wp_cond rfl (fun hc => ?_) (fun hc => ?_)
    · have hlt : n < m := cmpZ_high.1 (of_decide_eq_true hc)
      repeat first
        | refine Wp_seq ?_
        | refine Wp_region tm_mixed ?_
        | refine AW_move rfl rfl ?_
        | refine AW_assign rfl rfl ?_
        | refine AW_load rfl ty_num rfl rfl rfl rfl ?_
        | refine AW_store ty_num rfl rfl rfl rfl rfl rfl rfl ?_
        | refine AW_extract rfl rfl rfl ?_
        | refine AW_alloc rfl tz_num ?_
        | refine AW_box rfl rfl (row := true) rfl (fun h => by cases h) rfl ?_
        | refine AW_not rfl rfl ?_
        | refine AW_build rfl tb_num rfl ?_
        | refine AW_call rfl rfl (by first | exact kR | exact ct_gzeroF _ (by assumption) | exact kC) ?_
        | refine AW_ints rfl tu_nums ti_num ti_size ti_zero rfl rfl rfl (by first | exact .cons _ _ _ _ _ rfl (.cons _ _ _ _ _ rfl (.nil _)) | exact .cons _ _ _ _ _ rfl (.cons _ _ _ _ _ rfl (.cons _ _ _ _ _ rfl (.cons _ _ _ _ _ rfl (.nil _)))) | exact .cons _ _ _ _ _ rfl (.cons _ _ _ _ _ rfl (.cons _ _ _ _ _ rfl (.nil _))) | exact .cons _ _ _ _ _ rfl (.cons _ _ _ _ _ rfl (.cons _ _ _ _ _ rfl (.cons _ _ _ _ _ rfl (.cons _ _ _ _ _ rfl (.nil _)))))) ?_
        | refine AW_loadg rfl rfl rfl rfl ty_bool rfl rfl rfl hM ?_ | refine AW_loadg rfl rfl rfl rfl ty_bool rfl rfl rfl hN ?_ | refine AW_fieldAddrg rfl rfl rfl rfl tf_neg rfl rfl ?_ | refine AW_gt rfl rfl rfl ?_ | refine AW_ne rfl rfl rfl ?_
        | refine AW_pickT rfl rfl rfl ?_
        | refine AW_pickF rfl rfl rfl ?_
        | refine AW_skip rfl rfl rfl rfl ?_
        | refine AW_pickTg rfl rfl rfl rfl rfl rfl ?_
        | refine AW_pickFg rfl rfl rfl rfl rfl rfl ?_
        | refine AW_moveg rfl rfl rfl rfl rfl ?_
        | refine AW_notg rfl rfl rfl rfl rfl ?_
        | refine AW_eqg rfl rfl rfl rfl rfl rfl ?_
        | refine AW_eq rfl rfl rfl ?_
        | refine AW_loadg rfl rfl rfl rfl ty_num rfl rfl rfl rfl ?_
        | refine AW_callg rfl rfl rfl rfl rfl (by first | exact kR | exact ct_gzeroF _ (by assumption) | exact kC) ?_
        | refine AW_nil (fun (h : false = true) => by cases h) ?_
        | refine AW_nil (fun (_ : true = true) => by kernel_rfl) ?_
        | refine Wp_block ?_
        | refine Wp_skip ?_
        | refine Wp_exit ?_
        | refine Wp_ret ?_
      exact ⟨s, n, r, m, ⟨hs, hn, hr, hm, n0, m0, joins_comm r m s n, by unfold joinX; rw [if_pos hlt], lcmZ_comm n1 m1⟩, le_of ⟨rfl, rfl, rfl, rfl, rfl, rfl, trivial⟩ ⟨rfl, rfl, rfl, rfl, rfl, rfl, trivial⟩ rfl⟩
    · have hlt : ¬ n < m := fun h => of_decide_eq_false hc (cmpZ_high.2 h)
      repeat first
        | refine Wp_seq ?_
        | refine Wp_region tm_mixed ?_
        | refine AW_move rfl rfl ?_
        | refine AW_assign rfl rfl ?_
        | refine AW_load rfl ty_num rfl rfl rfl rfl ?_
        | refine AW_store ty_num rfl rfl rfl rfl rfl rfl rfl ?_
        | refine AW_extract rfl rfl rfl ?_
        | refine AW_alloc rfl tz_num ?_
        | refine AW_box rfl rfl (row := true) rfl (fun h => by cases h) rfl ?_
        | refine AW_not rfl rfl ?_
        | refine AW_build rfl tb_num rfl ?_
        | refine AW_call rfl rfl (by first | exact kR | exact ct_gzeroF _ (by assumption) | exact kC) ?_
        | refine AW_ints rfl tu_nums ti_num ti_size ti_zero rfl rfl rfl (by first | exact .cons _ _ _ _ _ rfl (.cons _ _ _ _ _ rfl (.nil _)) | exact .cons _ _ _ _ _ rfl (.cons _ _ _ _ _ rfl (.cons _ _ _ _ _ rfl (.cons _ _ _ _ _ rfl (.nil _)))) | exact .cons _ _ _ _ _ rfl (.cons _ _ _ _ _ rfl (.cons _ _ _ _ _ rfl (.nil _))) | exact .cons _ _ _ _ _ rfl (.cons _ _ _ _ _ rfl (.cons _ _ _ _ _ rfl (.cons _ _ _ _ _ rfl (.cons _ _ _ _ _ rfl (.nil _)))))) ?_
        | refine AW_loadg rfl rfl rfl rfl ty_bool rfl rfl rfl hM ?_ | refine AW_loadg rfl rfl rfl rfl ty_bool rfl rfl rfl hN ?_ | refine AW_fieldAddrg rfl rfl rfl rfl tf_neg rfl rfl ?_ | refine AW_gt rfl rfl rfl ?_ | refine AW_ne rfl rfl rfl ?_
        | refine AW_pickT rfl rfl rfl ?_
        | refine AW_pickF rfl rfl rfl ?_
        | refine AW_skip rfl rfl rfl rfl ?_
        | refine AW_pickTg rfl rfl rfl rfl rfl rfl ?_
        | refine AW_pickFg rfl rfl rfl rfl rfl rfl ?_
        | refine AW_moveg rfl rfl rfl rfl rfl ?_
        | refine AW_notg rfl rfl rfl rfl rfl ?_
        | refine AW_eqg rfl rfl rfl rfl rfl rfl ?_
        | refine AW_eq rfl rfl rfl ?_
        | refine AW_loadg rfl rfl rfl rfl ty_num rfl rfl rfl rfl ?_
        | refine AW_callg rfl rfl rfl rfl rfl (by first | exact kR | exact ct_gzeroF _ (by assumption) | exact kC) ?_
        | refine AW_nil (fun (h : false = true) => by cases h) ?_
        | refine AW_nil (fun (_ : true = true) => by kernel_rfl) ?_
        | refine Wp_block ?_
        | refine Wp_skip ?_
        | refine Wp_exit ?_
        | refine Wp_ret ?_
      exact ⟨r, m, s, n, ⟨hr, hm, hs, hn, m0, n0, Iff.rfl, by unfold joinX; rw [if_neg hlt], rfl⟩, le_of ⟨rfl, rfl, rfl, rfl, rfl, rfl, trivial⟩ ⟨rfl, rfl, rfl, rfl, rfl, rfl, trivial⟩ rfl⟩
  · rintro s' ⟨r1, m2, s1, n2, hJ, hle⟩
    refine Wp_le hle ?_
    clear hle kC hM hN kR e0 m1 n1 m0 n0 hr hm hs hn
    obtain ⟨hr, hm, hs, hn, m0, n0, hj, hx, hl⟩ := hJ
    obtain ⟨g, hg⟩ : ∃ g, gcdZ m2 n2 = g := ⟨_, rfl⟩
    have gp : 0 < g := by rw [← hg]; exact gcdZ_pos (by omega)
    have g0 : g ≠ 0 := by omega
    have gm : g ∣ m2 := by rw [← hg]; exact gcdZ_dvd_left _ _
    have gn : g ∣ n2 := by rw [← hg]; exact gcdZ_dvd_right _ _
    have lg : lc g.natAbs ≤ 1200 := by rw [← hg]; unfold gcdZ; rw [Int.natAbs_natCast]; exact Nat.le_trans (gcd_small hm hn) (by decide)
    have kG := ct_gOf m2 n2 hm hn
    rw [hg] at kG
    have lr : lc (r1 % m2).natAbs ≤ 90 := Nat.le_trans (lc_mono (mod_size m0)) hm
    have ls : lc (s1 % n2).natAbs ≤ 90 := Nat.le_trans (lc_mono (mod_size n0)) hn
    have kA := ct_ModP r1 m2 (by omega) (by omega) m0
    have kB := ct_ModP s1 n2 (by omega) (by omega) n0
    have ld : lc (r1 % m2 - s1 % n2).natAbs ≤ 91 := lc_sub lr ls
    have kD := ct_Sub0 (r1 % m2) (s1 % n2) (by omega) (by omega) (by omega)
    by_cases hjn : joins r m s n
    · have hd : (r1 % m2 - s1 % n2).tmod g = 0 := by rw [← hg]; exact hj.2 hjn
      have kE := ct_Exact0 (r1 % m2 - s1 % n2) g (by omega) lg g0 hd
      have kL := ct_gLcm m2 n2 hm hn
      have eL : lcmR m2 n2 = rawOf (lcmZ m2 n2) := by unfold lcmR; rw [if_neg (by omega)]
      rw [eL, hl] at kL
      have kW := ct_Exact0 m2 g (by omega) lg g0 (Int.tmod_eq_zero_of_dvd gm)
      have kV := ct_Exact0 n2 g (by omega) lg g0 (Int.tmod_eq_zero_of_dvd gn)
      have lw : lc (m2.tdiv g).natAbs ≤ 90 := lc_tdiv hm
      have lv : lc (n2.tdiv g).natAbs ≤ 90 := lc_tdiv hn
      have lD : lc ((r1 % m2 - s1 % n2).tdiv g).natAbs ≤ 91 := lc_tdiv ld
      have hx' := hx
      unfold jX at hx'
      rw [hg] at hx'
      have wp : 0 < m2.tdiv g := by
        have h1 := Int.tdiv_mul_cancel gm
        rcases Int.lt_trichotomy (m2.tdiv g) 0 with h | h | h
        · have := Int.mul_neg_of_neg_of_pos h gp; omega
        · rw [h] at h1; omega
        · exact h
      obtain ⟨W, hW⟩ : ∃ W, m2.tdiv g = W := ⟨_, rfl⟩
      obtain ⟨V, hV⟩ : ∃ V, n2.tdiv g = V := ⟨_, rfl⟩
      obtain ⟨D, hD⟩ : ∃ D, (r1 % m2 - s1 % n2).tdiv g = D := ⟨_, rfl⟩
      rw [hW] at kW lw wp hx'
      rw [hV] at kV lv hx'
      rw [hD] at kE lD hx'
      have kZ := ct_gBezout V W lv lw
      obtain ⟨X, hX⟩ : ∃ X, bzX V W = X := ⟨_, rfl⟩
      have lX : lc X.natAbs ≤ 90 := by rw [← hX]; exact Nat.le_trans (lc_mono (bzX_size (by omega))) lw
      rw [hX] at kZ hx'
      have kF := ct_ModP D W (by omega) (by omega) wp
      have lF : lc (D % W).natAbs ≤ 90 := Nat.le_trans (lc_mono (mod_size wp)) lw
      have kP := ct_Mul0 X (D % W) (by omega) (by omega) (by omega)
      have lP : lc (X * (D % W)).natAbs ≤ 180 := lc_times lX lF
      have kQ := ct_ModP (X * (D % W)) W (by omega) (by omega) wp
      have lQ : lc (X * (D % W) % W).natAbs ≤ 90 := Nat.le_trans (lc_mono (mod_size wp)) lw
      have kT := ct_Mul0 (X * (D % W) % W) n2 (by omega) (by omega) (by omega)
      have lT : lc (X * (D % W) % W * n2).natAbs ≤ 180 := lc_times lQ hn
      have kU := ct_Add0 (X * (D % W) % W * n2) (s1 % n2) (by omega) (by omega) (by have := lc_plus (k := 180) lT (Nat.le_trans ls (by decide)); omega)
      rw [hx'] at kU
      rw [if_pos hjn]
      repeat first
        | refine Wp_seq ?_
        | refine Wp_region tm_mixed ?_
        | refine AW_move rfl rfl ?_
        | refine AW_assign rfl rfl ?_
        | refine AW_load rfl ty_num rfl rfl rfl rfl ?_
        | refine AW_store ty_num rfl rfl rfl rfl rfl rfl rfl ?_
        | refine AW_extract rfl rfl rfl ?_
        | refine AW_alloc rfl tz_num ?_
        | refine AW_box rfl rfl (row := true) rfl (fun h => by cases h) rfl ?_
        | refine AW_not rfl rfl ?_
        | refine AW_build rfl tb_num rfl ?_
        | refine AW_call rfl rfl (by first | exact kA | exact kB | exact kG | exact kD | exact kE | exact kL | exact kW | exact kV | exact kZ | exact kF | exact kP | exact kQ | exact kT | exact kU) ?_
        | refine AW_ints rfl tu_nums ti_num ti_size ti_zero rfl rfl rfl (by first | exact .cons _ _ _ _ _ rfl (.cons _ _ _ _ _ rfl (.nil _)) | exact .cons _ _ _ _ _ rfl (.cons _ _ _ _ _ rfl (.cons _ _ _ _ _ rfl (.cons _ _ _ _ _ rfl (.nil _)))) | exact .cons _ _ _ _ _ rfl (.cons _ _ _ _ _ rfl (.cons _ _ _ _ _ rfl (.nil _))) | exact .cons _ _ _ _ _ rfl (.cons _ _ _ _ _ rfl (.cons _ _ _ _ _ rfl (.cons _ _ _ _ _ rfl (.cons _ _ _ _ _ rfl (.nil _)))))) ?_
        | refine AW_ne rfl rfl rfl ?_
        | refine AW_pickT rfl rfl rfl ?_
        | refine AW_pickF rfl rfl rfl ?_
        | refine AW_skip rfl rfl rfl rfl ?_
        | refine AW_pickTg rfl rfl rfl rfl rfl rfl ?_
        | refine AW_pickFg rfl rfl rfl rfl rfl rfl ?_
        | refine AW_moveg rfl rfl rfl rfl rfl ?_
        | refine AW_notg rfl rfl rfl rfl rfl ?_
        | refine AW_eqg rfl rfl rfl rfl rfl rfl ?_
        | refine AW_eq rfl rfl rfl ?_
        | refine AW_loadg rfl rfl rfl rfl ty_num rfl rfl rfl rfl ?_
        | refine AW_callg rfl rfl rfl rfl rfl (by first | exact kA | exact kB | exact kG | exact kD | exact kE | exact kL | exact kW | exact kV | exact kZ | exact kF | exact kP | exact kQ | exact kT | exact kU) ?_
        | refine AW_nil (fun (h : false = true) => by cases h) ?_
        | refine AW_nil (fun (_ : true = true) => by kernel_rfl) ?_
        | refine Wp_block ?_
        | refine Wp_skip ?_
        | refine Wp_exit ?_
        | refine Wp_ret ?_
      refine Wp_condF rfl ?_
      repeat first
        | refine Wp_seq ?_
        | refine Wp_region tm_mixed ?_
        | refine AW_move rfl rfl ?_
        | refine AW_assign rfl rfl ?_
        | refine AW_load rfl ty_num rfl rfl rfl rfl ?_
        | refine AW_store ty_num rfl rfl rfl rfl rfl rfl rfl ?_
        | refine AW_extract rfl rfl rfl ?_
        | refine AW_alloc rfl tz_num ?_
        | refine AW_box rfl rfl (row := true) rfl (fun h => by cases h) rfl ?_
        | refine AW_not rfl rfl ?_
        | refine AW_build rfl tb_num rfl ?_
        | refine AW_call rfl rfl (by first | exact kA | exact kB | exact kG | exact kD | exact kE | exact kL | exact kW | exact kV | exact kZ | exact kF | exact kP | exact kQ | exact kT | exact kU) ?_
        | refine AW_ints rfl tu_nums ti_num ti_size ti_zero rfl rfl rfl (by first | exact .cons _ _ _ _ _ rfl (.cons _ _ _ _ _ rfl (.nil _)) | exact .cons _ _ _ _ _ rfl (.cons _ _ _ _ _ rfl (.cons _ _ _ _ _ rfl (.cons _ _ _ _ _ rfl (.nil _)))) | exact .cons _ _ _ _ _ rfl (.cons _ _ _ _ _ rfl (.cons _ _ _ _ _ rfl (.nil _))) | exact .cons _ _ _ _ _ rfl (.cons _ _ _ _ _ rfl (.cons _ _ _ _ _ rfl (.cons _ _ _ _ _ rfl (.cons _ _ _ _ _ rfl (.nil _)))))) ?_
        | refine AW_ne rfl rfl rfl ?_
        | refine AW_pickT rfl rfl rfl ?_
        | refine AW_pickF rfl rfl rfl ?_
        | refine AW_skip rfl rfl rfl rfl ?_
        | refine AW_pickTg rfl rfl rfl rfl rfl rfl ?_
        | refine AW_pickFg rfl rfl rfl rfl rfl rfl ?_
        | refine AW_moveg rfl rfl rfl rfl rfl ?_
        | refine AW_notg rfl rfl rfl rfl rfl ?_
        | refine AW_eqg rfl rfl rfl rfl rfl rfl ?_
        | refine AW_eq rfl rfl rfl ?_
        | refine AW_loadg rfl rfl rfl rfl ty_num rfl rfl rfl rfl ?_
        | refine AW_callg rfl rfl rfl rfl rfl (by first | exact kA | exact kB | exact kG | exact kD | exact kE | exact kL | exact kW | exact kV | exact kZ | exact kF | exact kP | exact kQ | exact kT | exact kU) ?_
        | refine AW_nil (fun (h : false = true) => by cases h) ?_
        | refine AW_nil (fun (_ : true = true) => by kernel_rfl) ?_
        | refine Wp_block ?_
        | refine Wp_skip ?_
        | refine Wp_exit ?_
        | refine Wp_ret ?_
      refine Wp_condF rfl ?_
      repeat first
        | refine Wp_seq ?_
        | refine Wp_region tm_mixed ?_
        | refine AW_move rfl rfl ?_
        | refine AW_assign rfl rfl ?_
        | refine AW_load rfl ty_num rfl rfl rfl rfl ?_
        | refine AW_store ty_num rfl rfl rfl rfl rfl rfl rfl ?_
        | refine AW_extract rfl rfl rfl ?_
        | refine AW_alloc rfl tz_num ?_
        | refine AW_box rfl rfl (row := true) rfl (fun h => by cases h) rfl ?_
        | refine AW_not rfl rfl ?_
        | refine AW_build rfl tb_num rfl ?_
        | refine AW_call rfl rfl (by first | exact kA | exact kB | exact kG | exact kD | exact kE | exact kL | exact kW | exact kV | exact kZ | exact kF | exact kP | exact kQ | exact kT | exact kU) ?_
        | refine AW_ints rfl tu_nums ti_num ti_size ti_zero rfl rfl rfl (by first | exact .cons _ _ _ _ _ rfl (.cons _ _ _ _ _ rfl (.nil _)) | exact .cons _ _ _ _ _ rfl (.cons _ _ _ _ _ rfl (.cons _ _ _ _ _ rfl (.cons _ _ _ _ _ rfl (.nil _)))) | exact .cons _ _ _ _ _ rfl (.cons _ _ _ _ _ rfl (.cons _ _ _ _ _ rfl (.nil _))) | exact .cons _ _ _ _ _ rfl (.cons _ _ _ _ _ rfl (.cons _ _ _ _ _ rfl (.cons _ _ _ _ _ rfl (.cons _ _ _ _ _ rfl (.nil _)))))) ?_
        | refine AW_ne rfl rfl rfl ?_
        | refine AW_pickT rfl rfl rfl ?_
        | refine AW_pickF rfl rfl rfl ?_
        | refine AW_skip rfl rfl rfl rfl ?_
        | refine AW_pickTg rfl rfl rfl rfl rfl rfl ?_
        | refine AW_pickFg rfl rfl rfl rfl rfl rfl ?_
        | refine AW_moveg rfl rfl rfl rfl rfl ?_
        | refine AW_notg rfl rfl rfl rfl rfl ?_
        | refine AW_eqg rfl rfl rfl rfl rfl rfl ?_
        | refine AW_eq rfl rfl rfl ?_
        | refine AW_loadg rfl rfl rfl rfl ty_num rfl rfl rfl rfl ?_
        | refine AW_callg rfl rfl rfl rfl rfl (by first | exact kA | exact kB | exact kG | exact kD | exact kE | exact kL | exact kW | exact kV | exact kZ | exact kF | exact kP | exact kQ | exact kT | exact kU) ?_
        | refine AW_nil (fun (h : false = true) => by cases h) ?_
        | refine AW_nil (fun (_ : true = true) => by kernel_rfl) ?_
        | refine Wp_block ?_
        | refine Wp_skip ?_
        | refine Wp_exit ?_
        | refine Wp_ret ?_
      exact ⟨.inr rfl, _, .cell _ _ _ _ _ _ _ _ _ _ _ ty_num rfl rfl rfl (.cell _ _ _ _ _ _ _ _ _ _ _ ty_num rfl rfl rfl (.tmp _ _ _ _ rfl .nil)), rfl⟩
    · have hd : (r1 % m2 - s1 % n2).tmod g ≠ 0 := by rw [← hg]; exact fun h => hjn (hj.1 h)
      have kE := ct_ExactN (r1 % m2 - s1 % n2) g (by omega) lg g0 hd
      rw [if_neg hjn]
      repeat first
        | refine Wp_seq ?_
        | refine Wp_region tm_mixed ?_
        | refine AW_move rfl rfl ?_
        | refine AW_assign rfl rfl ?_
        | refine AW_load rfl ty_num rfl rfl rfl rfl ?_
        | refine AW_store ty_num rfl rfl rfl rfl rfl rfl rfl ?_
        | refine AW_extract rfl rfl rfl ?_
        | refine AW_alloc rfl tz_num ?_
        | refine AW_box rfl rfl (row := true) rfl (fun h => by cases h) rfl ?_
        | refine AW_not rfl rfl ?_
        | refine AW_build rfl tb_num rfl ?_
        | refine AW_call rfl rfl (by first | exact kA | exact kB | exact kG | exact kD | exact kE) ?_
        | refine AW_ints rfl tu_nums ti_num ti_size ti_zero rfl rfl rfl (by first | exact .cons _ _ _ _ _ rfl (.cons _ _ _ _ _ rfl (.nil _)) | exact .cons _ _ _ _ _ rfl (.cons _ _ _ _ _ rfl (.cons _ _ _ _ _ rfl (.cons _ _ _ _ _ rfl (.nil _)))) | exact .cons _ _ _ _ _ rfl (.cons _ _ _ _ _ rfl (.cons _ _ _ _ _ rfl (.nil _))) | exact .cons _ _ _ _ _ rfl (.cons _ _ _ _ _ rfl (.cons _ _ _ _ _ rfl (.cons _ _ _ _ _ rfl (.cons _ _ _ _ _ rfl (.nil _)))))) ?_
  
        | refine AW_pickT rfl rfl rfl ?_
        | refine AW_pickF rfl rfl rfl ?_
        | refine AW_skip rfl rfl rfl rfl ?_
        | refine AW_pickTg rfl rfl rfl rfl rfl rfl ?_
        | refine AW_pickFg rfl rfl rfl rfl rfl rfl ?_
        | refine AW_moveg rfl rfl rfl rfl rfl ?_
        | refine AW_notg rfl rfl rfl rfl rfl ?_
        | refine AW_eqg rfl rfl rfl rfl rfl rfl ?_
        | refine AW_eq rfl rfl rfl ?_
        | refine AW_loadg rfl rfl rfl rfl ty_num rfl rfl rfl rfl ?_
        | refine AW_callg rfl rfl rfl rfl rfl (by first | exact kA | exact kB | exact kG | exact kD | exact kE) ?_
        | refine AW_nil (fun (h : false = true) => by cases h) ?_
        | refine AW_nil (fun (_ : true = true) => by kernel_rfl) ?_
        | refine Wp_block ?_
        | refine Wp_skip ?_
        | refine Wp_exit ?_
        | refine Wp_ret ?_
      refine Wp_condT rfl ?_
      repeat first
        | refine Wp_seq ?_
        | refine Wp_region tm_mixed ?_
        | refine AW_move rfl rfl ?_
        | refine AW_assign rfl rfl ?_
        | refine AW_load rfl ty_num rfl rfl rfl rfl ?_
        | refine AW_store ty_num rfl rfl rfl rfl rfl rfl rfl ?_
        | refine AW_extract rfl rfl rfl ?_
        | refine AW_alloc rfl tz_num ?_
        | refine AW_box rfl rfl (row := true) rfl (fun h => by cases h) rfl ?_
        | refine AW_not rfl rfl ?_
        | refine AW_build rfl tb_num rfl ?_
        | refine AW_call rfl rfl (by first | exact kA | exact kB | exact kG | exact kD | exact kE) ?_
        | refine AW_ints rfl tu_nums ti_num ti_size ti_zero rfl rfl rfl (by first | exact .cons _ _ _ _ _ rfl (.cons _ _ _ _ _ rfl (.nil _)) | exact .cons _ _ _ _ _ rfl (.cons _ _ _ _ _ rfl (.cons _ _ _ _ _ rfl (.cons _ _ _ _ _ rfl (.nil _)))) | exact .cons _ _ _ _ _ rfl (.cons _ _ _ _ _ rfl (.cons _ _ _ _ _ rfl (.nil _))) | exact .cons _ _ _ _ _ rfl (.cons _ _ _ _ _ rfl (.cons _ _ _ _ _ rfl (.cons _ _ _ _ _ rfl (.cons _ _ _ _ _ rfl (.nil _)))))) ?_
  
        | refine AW_pickT rfl rfl rfl ?_
        | refine AW_pickF rfl rfl rfl ?_
        | refine AW_skip rfl rfl rfl rfl ?_
        | refine AW_pickTg rfl rfl rfl rfl rfl rfl ?_
        | refine AW_pickFg rfl rfl rfl rfl rfl rfl ?_
        | refine AW_moveg rfl rfl rfl rfl rfl ?_
        | refine AW_notg rfl rfl rfl rfl rfl ?_
        | refine AW_eqg rfl rfl rfl rfl rfl rfl ?_
        | refine AW_eq rfl rfl rfl ?_
        | refine AW_loadg rfl rfl rfl rfl ty_num rfl rfl rfl rfl ?_
        | refine AW_callg rfl rfl rfl rfl rfl (by first | exact kA | exact kB | exact kG | exact kD | exact kE) ?_
        | refine AW_nil (fun (h : false = true) => by cases h) ?_
        | refine AW_nil (fun (_ : true = true) => by kernel_rfl) ?_
        | refine Wp_block ?_
        | refine Wp_skip ?_
        | refine Wp_exit ?_
        | refine Wp_ret ?_
      exact ⟨.inr rfl, _, .cell _ _ _ _ _ _ _ _ _ _ _ ty_num rfl rfl rfl (.cell _ _ _ _ _ _ _ _ _ _ _ ty_num rfl rfl rfl (.tmp _ _ _ _ rfl .nil)), rfl⟩
end Go.Proofs.Ytonbhpadoplpkaa
/- The package rosetteref20, by the abstract machine: size, Gcd, Of, Inverse, Bezout, lcm, Lcm. -/
namespace Go.Proofs.Ytonbhpadoplpkaa
open Go.RowKit Go.Deep
/-- The inverse, as the reference reckons it. -/
def invZ (a m : Int) : Int := (eucR true m.natAbs (a % m).natAbs).2.2 % m
theorem bzX_spec {a b : Int} (hb : b ≠ 0) : 0 ≤ bzX a b ∧ bzX a b < bM a b ∧ b ∣ gcdZ a b - a * bzX a b := by
  have hp := bM_pos (a := a) hb
  have e : bzX a b = eX a b % bM a b := by unfold bzX; rw [if_neg hb]
  rw [e]
  refine ⟨Int.emod_nonneg _ (by omega), Int.emod_lt_of_pos _ hp, ?_⟩
  have h1 := e_made a b
  have h2 : bM a b * (eX a b / bM a b) + eX a b % bM a b = eX a b := Int.mul_ediv_add_emod _ _
  have h3 : eX a b % bM a b = eX a b - bM a b * (eX a b / bM a b) := by omega
  have h4 := bT_mul (a := a) hb
  refine ⟨eY a b + bT a b * (eX a b / bM a b), ?_⟩
  rw [h3, ← h1, Int.mul_sub, Int.mul_add, ← Int.mul_assoc b, h4, Int.mul_assoc]
  omega
end Go.Proofs.Ytonbhpadoplpkaa
