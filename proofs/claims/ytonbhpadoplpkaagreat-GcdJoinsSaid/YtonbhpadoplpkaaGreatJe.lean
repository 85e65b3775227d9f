import Derived.Test.YtonbhpadoplpkaaGreatJd
import Derived.Test.YtonbhpadoplpkaaGreatProg
import Derived.WalkKit
import Derived.Laws.OwnMore
import Derived.Deep.Draws
import Derived.Deep.OwnRows
import Derived.Deep.LoopGhost
import Derived.Deep.QuietTactic
import Derived.BigQuiet
import Derived.Lib.Hide
import Derived.Maps.AppendAt
import Derived.Laws.Rows
import Derived.OneCell
import Derived.Shelf.Spec.BitsCarry
import Derived.Deep.DeepCutAuto
import Derived.Shelf.Small.Bits
import Derived.Shelf.Strconv.Itoa0
import Derived.Shelf.Bits.Mul64
import Derived.Lib.BitFns
import Derived.Deep.CutBlock
import Derived.BigRegion
import Derived.StillTailTactics
import Derived.Deep.AppendLies
import Derived.Orders
import Derived.Lib.SliceRun
import Derived.Deep.MidRow
import Derived.BigCall
import Derived.Laws.AppendOwn
import Derived.Great.BuildSlice
import Derived.Deep.RegionWith
import Derived.WalkMore
import Derived.Laws.EntriesVeiled
import Derived.Laws.CopyOwn
import Derived.Test.YtonbhpadoplpkaaGreatRows
import Derived.ProofKit
import Derived.OpenShut
import Derived.Deep.SlicePairs
import Derived.WideKeyArgs
/- Of: Kint, GcdP, Grun, Gof. -/
/- Whole numbers of rosettekit, by the abstract machine. -/
namespace Go.Proofs.YtonbhpadoplpkaaGreat
open Go.RowKit Go.Deep
theorem ty_mag : TyI Tryz.prog 22 1 false := tyI_one Tryz.underlying22 rfl (by kernel_rfl)
theorem signed_minus (x : Int) : signed (!(rawOf x).1) x.natAbs = -x := by
  show signed (!decide (x < 0)) x.natAbs = -x
  by_cases h : x < 0
  · rw [decide_eq_true h]; show (x.natAbs : Int) = -x; omega
  · rw [decide_eq_false h]; show -(x.natAbs : Int) = -x; omega
theorem signed_same {x y : Int} (h : ((rawOf x).1 == (rawOf y).1) = true) : signed (rawOf x).1 (x.natAbs + y.natAbs) = x + y := by
  have h : (decide (x < 0) == decide (y < 0)) = true := h
  show signed (decide (x < 0)) (x.natAbs + y.natAbs) = x + y
  by_cases hx : x < 0 <;> by_cases hy : y < 0
  · rw [decide_eq_true hx]; show -((x.natAbs + y.natAbs : Nat) : Int) = _; omega
  · simp [hx, hy] at h
  · simp [hx, hy] at h
  · rw [decide_eq_false hx]; show ((x.natAbs + y.natAbs : Nat) : Int) = _; omega
theorem signed_apart {x y : Int} (h : ((rawOf x).1 == (rawOf y).1) = false) (hl : y.natAbs ≤ x.natAbs) : signed (rawOf x).1 (x.natAbs - y.natAbs) = x + y := by
  have h : (decide (x < 0) == decide (y < 0)) = false := h
  show signed (decide (x < 0)) (x.natAbs - y.natAbs) = x + y
  by_cases hx : x < 0 <;> by_cases hy : y < 0
  · simp [hx, hy] at h
  · rw [decide_eq_true hx]; show -((x.natAbs - y.natAbs : Nat) : Int) = _; omega
  · rw [decide_eq_false hx]; show ((x.natAbs - y.natAbs : Nat) : Int) = _; omega
  · simp [hx, hy] at h
theorem signed_times (x y : Int) : signed ((rawOf x).1 != (rawOf y).1) (x.natAbs * y.natAbs) = x * y := by
  show signed (decide (x < 0) != decide (y < 0)) (x.natAbs * y.natAbs) = x * y
  by_cases hx : x < 0 <;> by_cases hy : y < 0
  · rw [decide_eq_true hx, decide_eq_true hy]; show ((x.natAbs * y.natAbs : Nat) : Int) = _
    rw [Int.natCast_mul, show (x.natAbs : Int) = -x by omega, show (y.natAbs : Int) = -y by omega, Int.neg_mul_neg]
  · rw [decide_eq_true hx, decide_eq_false hy]; show -((x.natAbs * y.natAbs : Nat) : Int) = _
    rw [Int.natCast_mul, show (x.natAbs : Int) = -x by omega, show (y.natAbs : Int) = y by omega, Int.neg_mul, Int.neg_neg]
  · rw [decide_eq_false hx, decide_eq_true hy]; show -((x.natAbs * y.natAbs : Nat) : Int) = _
    rw [Int.natCast_mul, show (x.natAbs : Int) = x by omega, show (y.natAbs : Int) = -y by omega, Int.mul_neg, Int.neg_neg]
  · rw [decide_eq_false hx, decide_eq_false hy]; show ((x.natAbs * y.natAbs : Nat) : Int) = _
    rw [Int.natCast_mul, show (x.natAbs : Int) = x by omega, show (y.natAbs : Int) = y by omega]
theorem cmpN_ge {m n : Nat} : 0 ≤ cmpN m n ↔ n ≤ m := by
  unfold cmpN
  split
  · omega
  · split <;> omega
theorem lc_natsum {x y k : Nat} (hx : lc x ≤ k) (hy : lc y ≤ k) : lc (x + y) ≤ k + 1 := by have := lc_add x y; omega
set_option maxRecDepth 100000 in
theorem ct_IntMinus (x : Int) (hx : lc x.natAbs ≤ 68719476736) : Ct Tryz.prog 117 [aZ x] (aZ (-x)) := by
  refine ct_of_wp [.cell 2 24] [(0, aZ x)] 9 Tryz.func117 rfl rfl rfl rfl rfl rfl rfl rfl ?_
  intro G0 w0
  have kM := ct_Made (!(rawOf x).1) x.natAbs (by omega)
  rw [signed_minus] at kM
  repeat first
    | refine Wp_seq ?_
    | refine Wp_region tm_mixed ?_
    | refine AW_move rfl rfl ?_
    | refine AW_assign rfl rfl ?_
    | refine AW_load rfl ty_num rfl rfl rfl rfl ?_
    | refine AW_store ty_num rfl rfl rfl rfl rfl rfl rfl ?_
    | refine AW_extract rfl rfl rfl ?_
    | refine AW_alloc rfl tz_num ?_
    | refine AW_box rfl rfl (row := true) rfl (fun h => by cases h) rfl ?_
    | refine AW_not rfl rfl ?_
    | refine AW_build rfl tb_num rfl ?_
    | refine AW_call rfl rfl (by first | exact kM) ?_
    | refine AW_ints rfl tu_nums ti_num ti_size ti_zero rfl rfl rfl (by first | exact .cons _ _ _ _ _ rfl (.cons _ _ _ _ _ rfl (.nil _)) | exact .cons _ _ _ _ _ rfl (.cons _ _ _ _ _ rfl (.cons _ _ _ _ _ rfl (.cons _ _ _ _ _ rfl (.nil _)))) | exact .cons _ _ _ _ _ rfl (.cons _ _ _ _ _ rfl (.cons _ _ _ _ _ rfl (.nil _))) | exact .cons _ _ _ _ _ rfl (.cons _ _ _ _ _ rfl (.cons _ _ _ _ _ rfl (.cons _ _ _ _ _ rfl (.cons _ _ _ _ _ rfl (.nil _)))))) ?_
    | refine AW_fieldAddr rfl tf_neg rfl rfl ?_ | refine AW_fieldAddr rfl tf_mag rfl rfl ?_ | refine AW_load rfl ty_bool rfl rfl rfl rfl ?_ | refine AW_load rfl ty_mag rfl rfl rfl rfl ?_ | refine AW_beq rfl Tryz.underlying4 rfl rfl ?_ | refine AW_bne rfl Tryz.underlying4 rfl rfl ?_ | refine AW_len rfl rfl Tryz.underlying22 ?_ | refine AW_ge rfl rfl rfl ?_ | refine AW_gt rfl rfl rfl ?_
    | refine AW_pickT rfl rfl rfl ?_
    | refine AW_pickF rfl rfl rfl ?_
    | refine AW_skip rfl rfl rfl rfl ?_
    | refine AW_pickTg rfl rfl rfl rfl rfl rfl ?_
    | refine AW_pickFg rfl rfl rfl rfl rfl rfl ?_
    | refine AW_moveg rfl rfl rfl rfl rfl ?_
    | refine AW_notg rfl rfl rfl rfl rfl ?_
    | refine AW_eqg rfl rfl rfl rfl rfl rfl ?_
    | refine AW_eq rfl rfl rfl ?_
    | refine AW_loadg rfl rfl rfl rfl ty_num rfl rfl rfl rfl ?_
    | refine AW_callg rfl rfl rfl rfl rfl (by first | exact kM) ?_
    | refine AW_nil (fun (h : false = true) => by cases h) ?_
    | refine AW_nil (fun (_ : true = true) => by kernel_rfl) ?_
    | refine Wp_block ?_
    | refine Wp_skip ?_
    | refine Wp_exit ?_
    | refine Wp_ret ?_
  exact ⟨.inr rfl, _, .cell _ _ _ _ _ _ _ _ _ _ _ ty_num rfl rfl rfl .nil, rfl⟩
set_option maxRecDepth 100000 in
theorem ct_IntPlus (x y : Int) (hx : lc x.natAbs ≤ 68719476736) (hy : lc y.natAbs ≤ 68719476736) : Ct Tryz.prog 79 [aZ x, aZ y] (aZ (x + y)) := by
  refine ct_of_wp [.cell 4 24] [(0, aZ x), (1, aZ y)] 40 Tryz.func79 rfl rfl rfl rfl rfl rfl rfl rfl ?_
  intro G0 w0
  have k1 := ct_NatAdd x.natAbs y.natAbs (by omega) (by omega)
  have k2 := ct_NatCmp x.natAbs y.natAbs (by omega) (by omega)
  have m1 := ct_Made (rawOf x).1 (x.natAbs + y.natAbs) (by have := lc_natsum hx hy; omega)
  repeat first
    | refine Wp_seq ?_
    | refine Wp_region tm_mixed ?_
    | refine AW_move rfl rfl ?_
    | refine AW_assign rfl rfl ?_
    | refine AW_load rfl ty_num rfl rfl rfl rfl ?_
    | refine AW_store ty_num rfl rfl rfl rfl rfl rfl rfl ?_
    | refine AW_extract rfl rfl rfl ?_
    | refine AW_alloc rfl tz_num ?_
    | refine AW_box rfl rfl (row := true) rfl (fun h => by cases h) rfl ?_
    | refine AW_not rfl rfl ?_
    | refine AW_build rfl tb_num rfl ?_
    | refine AW_call rfl rfl (by first | exact k1 | exact k2) ?_
    | refine AW_ints rfl tu_nums ti_num ti_size ti_zero rfl rfl rfl (by first | exact .cons _ _ _ _ _ rfl (.cons _ _ _ _ _ rfl (.nil _)) | exact .cons _ _ _ _ _ rfl (.cons _ _ _ _ _ rfl (.cons _ _ _ _ _ rfl (.cons _ _ _ _ _ rfl (.nil _)))) | exact .cons _ _ _ _ _ rfl (.cons _ _ _ _ _ rfl (.cons _ _ _ _ _ rfl (.nil _))) | exact .cons _ _ _ _ _ rfl (.cons _ _ _ _ _ rfl (.cons _ _ _ _ _ rfl (.cons _ _ _ _ _ rfl (.cons _ _ _ _ _ rfl (.nil _)))))) ?_
    | refine AW_fieldAddr rfl tf_neg rfl rfl ?_ | refine AW_fieldAddr rfl tf_mag rfl rfl ?_ | refine AW_load rfl ty_bool rfl rfl rfl rfl ?_ | refine AW_load rfl ty_mag rfl rfl rfl rfl ?_ | refine AW_beq rfl Tryz.underlying4 rfl rfl ?_ | refine AW_bne rfl Tryz.underlying4 rfl rfl ?_ | refine AW_len rfl rfl Tryz.underlying22 ?_ | refine AW_ge rfl rfl rfl ?_ | refine AW_gt rfl rfl rfl ?_
    | refine AW_pickT rfl rfl rfl ?_
    | refine AW_pickF rfl rfl rfl ?_
    | refine AW_skip rfl rfl rfl rfl ?_
    | refine AW_pickTg rfl rfl rfl rfl rfl rfl ?_
    | refine AW_pickFg rfl rfl rfl rfl rfl rfl ?_
    | refine AW_moveg rfl rfl rfl rfl rfl ?_
    | refine AW_notg rfl rfl rfl rfl rfl ?_
    | refine AW_eqg rfl rfl rfl rfl rfl rfl ?_
    | refine AW_eq rfl rfl rfl ?_
    | refine AW_loadg rfl rfl rfl rfl ty_num rfl rfl rfl rfl ?_
    | refine AW_callg rfl rfl rfl rfl rfl (by first | exact k1 | exact k2) ?_
    | refine AW_nil (fun (h : false = true) => by cases h) ?_
    | refine AW_nil (fun (_ : true = true) => by kernel_rfl) ?_
    | refine Wp_block ?_
    | refine Wp_skip ?_
    | refine Wp_exit ?_
    | refine Wp_ret ?_
  refine Wp_cond rfl (fun hc => ?_) (fun hc => ?_)
  · rw [signed_same hc] at m1
    repeat first
      | refine Wp_seq ?_
      | refine Wp_region tm_mixed ?_
      | refine AW_move rfl rfl ?_
      | refine AW_assign rfl rfl ?_
      | refine AW_load rfl ty_num rfl rfl rfl rfl ?_
      | refine AW_store ty_num rfl rfl rfl rfl rfl rfl rfl ?_
      | refine AW_extract rfl rfl rfl ?_
      | refine AW_alloc rfl tz_num ?_
      | refine AW_box rfl rfl (row := true) rfl (fun h => by cases h) rfl ?_
      | refine AW_not rfl rfl ?_
      | refine AW_build rfl tb_num rfl ?_
      | refine AW_call rfl rfl (by first | exact k1 | exact m1) ?_
      | refine AW_ints rfl tu_nums ti_num ti_size ti_zero rfl rfl rfl (by first | exact .cons _ _ _ _ _ rfl (.cons _ _ _ _ _ rfl (.nil _)) | exact .cons _ _ _ _ _ rfl (.cons _ _ _ _ _ rfl (.cons _ _ _ _ _ rfl (.cons _ _ _ _ _ rfl (.nil _)))) | exact .cons _ _ _ _ _ rfl (.cons _ _ _ _ _ rfl (.cons _ _ _ _ _ rfl (.nil _))) | exact .cons _ _ _ _ _ rfl (.cons _ _ _ _ _ rfl (.cons _ _ _ _ _ rfl (.cons _ _ _ _ _ rfl (.cons _ _ _ _ _ rfl (.nil _)))))) ?_
      | refine AW_fieldAddr rfl tf_neg rfl rfl ?_ | refine AW_fieldAddr rfl tf_mag rfl rfl ?_ | refine AW_load rfl ty_bool rfl rfl rfl rfl ?_ | refine AW_load rfl ty_mag rfl rfl rfl rfl ?_ | refine AW_beq rfl Tryz.underlying4 rfl rfl ?_ | refine AW_bne rfl Tryz.underlying4 rfl rfl ?_ | refine AW_len rfl rfl Tryz.underlying22 ?_ | refine AW_ge rfl rfl rfl ?_ | refine AW_gt rfl rfl rfl ?_
      | refine AW_pickT rfl rfl rfl ?_
      | refine AW_pickF rfl rfl rfl ?_
      | refine AW_skip rfl rfl rfl rfl ?_
      | refine AW_pickTg rfl rfl rfl rfl rfl rfl ?_
      | refine AW_pickFg rfl rfl rfl rfl rfl rfl ?_
      | refine AW_moveg rfl rfl rfl rfl rfl ?_
      | refine AW_notg rfl rfl rfl rfl rfl ?_
      | refine AW_eqg rfl rfl rfl rfl rfl rfl ?_
      | refine AW_eq rfl rfl rfl ?_
      | refine AW_loadg rfl rfl rfl rfl ty_num rfl rfl rfl rfl ?_
      | refine AW_callg rfl rfl rfl rfl rfl (by first | exact k1 | exact m1) ?_
      | refine AW_nil (fun (h : false = true) => by cases h) ?_
      | refine AW_nil (fun (_ : true = true) => by kernel_rfl) ?_
      | refine Wp_block ?_
      | refine Wp_skip ?_
      | refine Wp_exit ?_
      | refine Wp_ret ?_
    exact ⟨.inr rfl, _, .cell _ _ _ _ _ _ _ _ _ _ _ ty_num rfl rfl rfl .nil, rfl⟩
  · repeat first
      | refine Wp_seq ?_
      | refine Wp_region tm_mixed ?_
      | refine AW_move rfl rfl ?_
      | refine AW_assign rfl rfl ?_
      | refine AW_load rfl ty_num rfl rfl rfl rfl ?_
      | refine AW_store ty_num rfl rfl rfl rfl rfl rfl rfl ?_
      | refine AW_extract rfl rfl rfl ?_
      | refine AW_alloc rfl tz_num ?_
      | refine AW_box rfl rfl (row := true) rfl (fun h => by cases h) rfl ?_
      | refine AW_not rfl rfl ?_
      | refine AW_build rfl tb_num rfl ?_
      | refine AW_call rfl rfl (by first | exact k1 | exact k2) ?_
      | refine AW_ints rfl tu_nums ti_num ti_size ti_zero rfl rfl rfl (by first | exact .cons _ _ _ _ _ rfl (.cons _ _ _ _ _ rfl (.nil _)) | exact .cons _ _ _ _ _ rfl (.cons _ _ _ _ _ rfl (.cons _ _ _ _ _ rfl (.cons _ _ _ _ _ rfl (.nil _)))) | exact .cons _ _ _ _ _ rfl (.cons _ _ _ _ _ rfl (.cons _ _ _ _ _ rfl (.nil _))) | exact .cons _ _ _ _ _ rfl (.cons _ _ _ _ _ rfl (.cons _ _ _ _ _ rfl (.cons _ _ _ _ _ rfl (.cons _ _ _ _ _ rfl (.nil _)))))) ?_
      | refine AW_fieldAddr rfl tf_neg rfl rfl ?_ | refine AW_fieldAddr rfl tf_mag rfl rfl ?_ | refine AW_load rfl ty_bool rfl rfl rfl rfl ?_ | refine AW_load rfl ty_mag rfl rfl rfl rfl ?_ | refine AW_beq rfl Tryz.underlying4 rfl rfl ?_ | refine AW_bne rfl Tryz.underlying4 rfl rfl ?_ | refine AW_len rfl rfl Tryz.underlying22 ?_ | refine AW_ge rfl rfl rfl ?_ | refine AW_gt rfl rfl rfl ?_
      | refine AW_pickT rfl rfl rfl ?_
      | refine AW_pickF rfl rfl rfl ?_
      | refine AW_skip rfl rfl rfl rfl ?_
      | refine AW_pickTg rfl rfl rfl rfl rfl rfl ?_
      | refine AW_pickFg rfl rfl rfl rfl rfl rfl ?_
      | refine AW_moveg rfl rfl rfl rfl rfl ?_
      | refine AW_notg rfl rfl rfl rfl rfl ?_
      | refine AW_eqg rfl rfl rfl rfl rfl rfl ?_
      | refine AW_eq rfl rfl rfl ?_
      | refine AW_loadg rfl rfl rfl rfl ty_num rfl rfl rfl rfl ?_
      | refine AW_callg rfl rfl rfl rfl rfl (by first | exact k1 | exact k2) ?_
      | refine AW_nil (fun (h : false = true) => by cases h) ?_
      | refine AW_nil (fun (_ : true = true) => by kernel_rfl) ?_
      | refine Wp_block ?_
      | refine Wp_skip ?_
      | refine Wp_exit ?_
      | refine Wp_ret ?_
    refine Wp_cond rfl (fun hd => ?_) (fun hd => ?_)
    · have hl : y.natAbs ≤ x.natAbs := cmpN_ge.1 (of_decide_eq_true hd)
      have k3 := ct_NatSub x.natAbs y.natAbs (by omega) (by omega) hl
      have m3 := ct_Made (rawOf x).1 (x.natAbs - y.natAbs) (by have := lc_mono (Nat.sub_le x.natAbs y.natAbs); omega)
      rw [signed_apart hc hl] at m3
      repeat first
        | refine Wp_seq ?_
        | refine Wp_region tm_mixed ?_
        | refine AW_move rfl rfl ?_
        | refine AW_assign rfl rfl ?_
        | refine AW_load rfl ty_num rfl rfl rfl rfl ?_
        | refine AW_store ty_num rfl rfl rfl rfl rfl rfl rfl ?_
        | refine AW_extract rfl rfl rfl ?_
        | refine AW_alloc rfl tz_num ?_
        | refine AW_box rfl rfl (row := true) rfl (fun h => by cases h) rfl ?_
        | refine AW_not rfl rfl ?_
        | refine AW_build rfl tb_num rfl ?_
        | refine AW_call rfl rfl (by first | exact k3 | exact m3) ?_
        | refine AW_ints rfl tu_nums ti_num ti_size ti_zero rfl rfl rfl (by first | exact .cons _ _ _ _ _ rfl (.cons _ _ _ _ _ rfl (.nil _)) | exact .cons _ _ _ _ _ rfl (.cons _ _ _ _ _ rfl (.cons _ _ _ _ _ rfl (.cons _ _ _ _ _ rfl (.nil _)))) | exact .cons _ _ _ _ _ rfl (.cons _ _ _ _ _ rfl (.cons _ _ _ _ _ rfl (.nil _))) | exact .cons _ _ _ _ _ rfl (.cons _ _ _ _ _ rfl (.cons _ _ _ _ _ rfl (.cons _ _ _ _ _ rfl (.cons _ _ _ _ _ rfl (.nil _)))))) ?_
        | refine AW_fieldAddr rfl tf_neg rfl rfl ?_ | refine AW_fieldAddr rfl tf_mag rfl rfl ?_ | refine AW_load rfl ty_bool rfl rfl rfl rfl ?_ | refine AW_load rfl ty_mag rfl rfl rfl rfl ?_ | refine AW_beq rfl Tryz.underlying4 rfl rfl ?_ | refine AW_bne rfl Tryz.underlying4 rfl rfl ?_ | refine AW_len rfl rfl Tryz.underlying22 ?_ | refine AW_ge rfl rfl rfl ?_ | refine AW_gt rfl rfl rfl ?_
        | refine AW_pickT rfl rfl rfl ?_
        | refine AW_pickF rfl rfl rfl ?_
        | refine AW_skip rfl rfl rfl rfl ?_
        | refine AW_pickTg rfl rfl rfl rfl rfl rfl ?_
        | refine AW_pickFg rfl rfl rfl rfl rfl rfl ?_
        | refine AW_moveg rfl rfl rfl rfl rfl ?_
        | refine AW_notg rfl rfl rfl rfl rfl ?_
        | refine AW_eqg rfl rfl rfl rfl rfl rfl ?_
        | refine AW_eq rfl rfl rfl ?_
        | refine AW_loadg rfl rfl rfl rfl ty_num rfl rfl rfl rfl ?_
        | refine AW_callg rfl rfl rfl rfl rfl (by first | exact k3 | exact m3) ?_
        | refine AW_nil (fun (h : false = true) => by cases h) ?_
        | refine AW_nil (fun (_ : true = true) => by kernel_rfl) ?_
        | refine Wp_block ?_
        | refine Wp_skip ?_
        | refine Wp_exit ?_
        | refine Wp_ret ?_
      exact ⟨.inr rfl, _, .cell _ _ _ _ _ _ _ _ _ _ _ ty_num rfl rfl rfl .nil, rfl⟩
    · have hl : ¬ y.natAbs ≤ x.natAbs := fun h => of_decide_eq_false hd (cmpN_ge.2 h)
      have k3 := ct_NatSub y.natAbs x.natAbs (by omega) (by omega) (by omega)
      have m3 := ct_Made (rawOf y).1 (y.natAbs - x.natAbs) (by have := lc_mono (Nat.sub_le y.natAbs x.natAbs); omega)
      rw [signed_apart (by rw [Bool.beq_comm]; exact hc) (by omega), Int.add_comm] at m3
      repeat first
        | refine Wp_seq ?_
        | refine Wp_region tm_mixed ?_
        | refine AW_move rfl rfl ?_
        | refine AW_assign rfl rfl ?_
        | refine AW_load rfl ty_num rfl rfl rfl rfl ?_
        | refine AW_store ty_num rfl rfl rfl rfl rfl rfl rfl ?_
        | refine AW_extract rfl rfl rfl ?_
        | refine AW_alloc rfl tz_num ?_
        | refine AW_box rfl rfl (row := true) rfl (fun h => by cases h) rfl ?_
        | refine AW_not rfl rfl ?_
        | refine AW_build rfl tb_num rfl ?_
        | refine AW_call rfl rfl (by first | exact k3 | exact m3) ?_
        | refine AW_ints rfl tu_nums ti_num ti_size ti_zero rfl rfl rfl (by first | exact .cons _ _ _ _ _ rfl (.cons _ _ _ _ _ rfl (.nil _)) | exact .cons _ _ _ _ _ rfl (.cons _ _ _ _ _ rfl (.cons _ _ _ _ _ rfl (.cons _ _ _ _ _ rfl (.nil _)))) | exact .cons _ _ _ _ _ rfl (.cons _ _ _ _ _ rfl (.cons _ _ _ _ _ rfl (.nil _))) | exact .cons _ _ _ _ _ rfl (.cons _ _ _ _ _ rfl (.cons _ _ _ _ _ rfl (.cons _ _ _ _ _ rfl (.cons _ _ _ _ _ rfl (.nil _)))))) ?_
        | refine AW_fieldAddr rfl tf_neg rfl rfl ?_ | refine AW_fieldAddr rfl tf_mag rfl rfl ?_ | refine AW_load rfl ty_bool rfl rfl rfl rfl ?_ | refine AW_load rfl ty_mag rfl rfl rfl rfl ?_ | refine AW_beq rfl Tryz.underlying4 rfl rfl ?_ | refine AW_bne rfl Tryz.underlying4 rfl rfl ?_ | refine AW_len rfl rfl Tryz.underlying22 ?_ | refine AW_ge rfl rfl rfl ?_ | refine AW_gt rfl rfl rfl ?_
        | refine AW_pickT rfl rfl rfl ?_
        | refine AW_pickF rfl rfl rfl ?_
        | refine AW_skip rfl rfl rfl rfl ?_
        | refine AW_pickTg rfl rfl rfl rfl rfl rfl ?_
        | refine AW_pickFg rfl rfl rfl rfl rfl rfl ?_
        | refine AW_moveg rfl rfl rfl rfl rfl ?_
        | refine AW_notg rfl rfl rfl rfl rfl ?_
        | refine AW_eqg rfl rfl rfl rfl rfl rfl ?_
        | refine AW_eq rfl rfl rfl ?_
        | refine AW_loadg rfl rfl rfl rfl ty_num rfl rfl rfl rfl ?_
        | refine AW_callg rfl rfl rfl rfl rfl (by first | exact k3 | exact m3) ?_
        | refine AW_nil (fun (h : false = true) => by cases h) ?_
        | refine AW_nil (fun (_ : true = true) => by kernel_rfl) ?_
        | refine Wp_block ?_
        | refine Wp_skip ?_
        | refine Wp_exit ?_
        | refine Wp_ret ?_
      exact ⟨.inr rfl, _, .cell _ _ _ _ _ _ _ _ _ _ _ ty_num rfl rfl rfl .nil, rfl⟩
set_option maxRecDepth 100000 in
theorem ct_IntLess (x y : Int) (hx : lc x.natAbs ≤ 68719476736) (hy : lc y.natAbs ≤ 68719476736) : Ct Tryz.prog 74 [aZ x, aZ y] (aZ (x - y)) := by
  refine ct_of_wp [.cell 4 24] [(0, aZ x), (1, aZ y)] 9 Tryz.func74 rfl rfl rfl rfl rfl rfl rfl rfl ?_
  intro G0 w0
  have k1 := ct_IntMinus y hy
  have k2 := ct_IntPlus x (-y) hx (by rw [Int.natAbs_neg]; exact hy)
  repeat first
    | refine Wp_seq ?_
    | refine Wp_region tm_mixed ?_
    | refine AW_move rfl rfl ?_
    | refine AW_assign rfl rfl ?_
    | refine AW_load rfl ty_num rfl rfl rfl rfl ?_
    | refine AW_store ty_num rfl rfl rfl rfl rfl rfl rfl ?_
    | refine AW_extract rfl rfl rfl ?_
    | refine AW_alloc rfl tz_num ?_
    | refine AW_box rfl rfl (row := true) rfl (fun h => by cases h) rfl ?_
    | refine AW_not rfl rfl ?_
    | refine AW_build rfl tb_num rfl ?_
    | refine AW_call rfl rfl (by first | exact k1 | exact k2) ?_
    | refine AW_ints rfl tu_nums ti_num ti_size ti_zero rfl rfl rfl (by first | exact .cons _ _ _ _ _ rfl (.cons _ _ _ _ _ rfl (.nil _)) | exact .cons _ _ _ _ _ rfl (.cons _ _ _ _ _ rfl (.cons _ _ _ _ _ rfl (.cons _ _ _ _ _ rfl (.nil _)))) | exact .cons _ _ _ _ _ rfl (.cons _ _ _ _ _ rfl (.cons _ _ _ _ _ rfl (.nil _))) | exact .cons _ _ _ _ _ rfl (.cons _ _ _ _ _ rfl (.cons _ _ _ _ _ rfl (.cons _ _ _ _ _ rfl (.cons _ _ _ _ _ rfl (.nil _)))))) ?_
    | refine AW_fieldAddr rfl tf_neg rfl rfl ?_ | refine AW_fieldAddr rfl tf_mag rfl rfl ?_ | refine AW_load rfl ty_bool rfl rfl rfl rfl ?_ | refine AW_load rfl ty_mag rfl rfl rfl rfl ?_ | refine AW_beq rfl Tryz.underlying4 rfl rfl ?_ | refine AW_bne rfl Tryz.underlying4 rfl rfl ?_ | refine AW_len rfl rfl Tryz.underlying22 ?_ | refine AW_ge rfl rfl rfl ?_ | refine AW_gt rfl rfl rfl ?_
    | refine AW_pickT rfl rfl rfl ?_
    | refine AW_pickF rfl rfl rfl ?_
    | refine AW_skip rfl rfl rfl rfl ?_
    | refine AW_pickTg rfl rfl rfl rfl rfl rfl ?_
    | refine AW_pickFg rfl rfl rfl rfl rfl rfl ?_
    | refine AW_moveg rfl rfl rfl rfl rfl ?_
    | refine AW_notg rfl rfl rfl rfl rfl ?_
    | refine AW_eqg rfl rfl rfl rfl rfl rfl ?_
    | refine AW_eq rfl rfl rfl ?_
    | refine AW_loadg rfl rfl rfl rfl ty_num rfl rfl rfl rfl ?_
    | refine AW_callg rfl rfl rfl rfl rfl (by first | exact k1 | exact k2) ?_
    | refine AW_nil (fun (h : false = true) => by cases h) ?_
    | refine AW_nil (fun (_ : true = true) => by kernel_rfl) ?_
    | refine Wp_block ?_
    | refine Wp_skip ?_
    | refine Wp_exit ?_
    | refine Wp_ret ?_
  exact ⟨.inr rfl, _, .cell _ _ _ _ _ _ _ _ _ _ _ ty_num rfl rfl rfl .nil, rfl⟩
set_option maxRecDepth 100000 in
theorem ct_IntTimes (x y : Int) (hx : lc x.natAbs ≤ 68719476736) (hy : lc y.natAbs ≤ 68719476736) : Ct Tryz.prog 75 [aZ x, aZ y] (aZ (x * y)) := by
  refine ct_of_wp [.cell 4 24] [(0, aZ x), (1, aZ y)] 16 Tryz.func75 rfl rfl rfl rfl rfl rfl rfl rfl ?_
  intro G0 w0
  have k1 := ct_NatMul x.natAbs y.natAbs (by omega) (by omega)
  have k2 := ct_Made ((rawOf x).1 != (rawOf y).1) (x.natAbs * y.natAbs) (by have := lc_mul x.natAbs y.natAbs; omega)
  rw [signed_times] at k2
  repeat first
    | refine Wp_seq ?_
    | refine Wp_region tm_mixed ?_
    | refine AW_move rfl rfl ?_
    | refine AW_assign rfl rfl ?_
    | refine AW_load rfl ty_num rfl rfl rfl rfl ?_
    | refine AW_store ty_num rfl rfl rfl rfl rfl rfl rfl ?_
    | refine AW_extract rfl rfl rfl ?_
    | refine AW_alloc rfl tz_num ?_
    | refine AW_box rfl rfl (row := true) rfl (fun h => by cases h) rfl ?_
    | refine AW_not rfl rfl ?_
    | refine AW_build rfl tb_num rfl ?_
    | refine AW_call rfl rfl (by first | exact k1 | exact k2) ?_
    | refine AW_ints rfl tu_nums ti_num ti_size ti_zero rfl rfl rfl (by first | exact .cons _ _ _ _ _ rfl (.cons _ _ _ _ _ rfl (.nil _)) | exact .cons _ _ _ _ _ rfl (.cons _ _ _ _ _ rfl (.cons _ _ _ _ _ rfl (.cons _ _ _ _ _ rfl (.nil _)))) | exact .cons _ _ _ _ _ rfl (.cons _ _ _ _ _ rfl (.cons _ _ _ _ _ rfl (.nil _))) | exact .cons _ _ _ _ _ rfl (.cons _ _ _ _ _ rfl (.cons _ _ _ _ _ rfl (.cons _ _ _ _ _ rfl (.cons _ _ _ _ _ rfl (.nil _)))))) ?_
    | refine AW_fieldAddr rfl tf_neg rfl rfl ?_ | refine AW_fieldAddr rfl tf_mag rfl rfl ?_ | refine AW_load rfl ty_bool rfl rfl rfl rfl ?_ | refine AW_load rfl ty_mag rfl rfl rfl rfl ?_ | refine AW_beq rfl Tryz.underlying4 rfl rfl ?_ | refine AW_bne rfl Tryz.underlying4 rfl rfl ?_ | refine AW_len rfl rfl Tryz.underlying22 ?_ | refine AW_ge rfl rfl rfl ?_ | refine AW_gt rfl rfl rfl ?_
    | refine AW_pickT rfl rfl rfl ?_
    | refine AW_pickF rfl rfl rfl ?_
    | refine AW_skip rfl rfl rfl rfl ?_
    | refine AW_pickTg rfl rfl rfl rfl rfl rfl ?_
    | refine AW_pickFg rfl rfl rfl rfl rfl rfl ?_
    | refine AW_moveg rfl rfl rfl rfl rfl ?_
    | refine AW_notg rfl rfl rfl rfl rfl ?_
    | refine AW_eqg rfl rfl rfl rfl rfl rfl ?_
    | refine AW_eq rfl rfl rfl ?_
    | refine AW_loadg rfl rfl rfl rfl ty_num rfl rfl rfl rfl ?_
    | refine AW_callg rfl rfl rfl rfl rfl (by first | exact k1 | exact k2) ?_
    | refine AW_nil (fun (h : false = true) => by cases h) ?_
    | refine AW_nil (fun (_ : true = true) => by kernel_rfl) ?_
    | refine Wp_block ?_
    | refine Wp_skip ?_
    | refine Wp_exit ?_
    | refine Wp_ret ?_
  exact ⟨.inr rfl, _, .cell _ _ _ _ _ _ _ _ _ _ _ ty_num rfl rfl rfl .nil, rfl⟩
set_option maxRecDepth 100000 in
theorem ct_IntSign (x : Int) (hx : lc x.natAbs ≤ 68719476736) : Ct Tryz.prog 71 [aZ x] (.val (aI (Int.sign x))) := by
  refine ct_of_wp [.tmp 2] [(0, aZ x)] 7 Tryz.func71 rfl rfl rfl rfl rfl rfl rfl rfl ?_
  intro G0 w0
  by_cases h0 : x = 0
  · have k1 := ct_IntZeroT x h0
    repeat first
      | refine Wp_seq ?_
      | refine Wp_region tm_mixed ?_
      | refine AW_move rfl rfl ?_
      | refine AW_assign rfl rfl ?_
      | refine AW_load rfl ty_num rfl rfl rfl rfl ?_
      | refine AW_store ty_num rfl rfl rfl rfl rfl rfl rfl ?_
      | refine AW_extract rfl rfl rfl ?_
      | refine AW_alloc rfl tz_num ?_
      | refine AW_box rfl rfl (row := true) rfl (fun h => by cases h) rfl ?_
      | refine AW_not rfl rfl ?_
      | refine AW_build rfl tb_num rfl ?_
      | refine AW_call rfl rfl (by first | exact k1) ?_
      | refine AW_ints rfl tu_nums ti_num ti_size ti_zero rfl rfl rfl (by first | exact .cons _ _ _ _ _ rfl (.cons _ _ _ _ _ rfl (.nil _)) | exact .cons _ _ _ _ _ rfl (.cons _ _ _ _ _ rfl (.cons _ _ _ _ _ rfl (.cons _ _ _ _ _ rfl (.nil _)))) | exact .cons _ _ _ _ _ rfl (.cons _ _ _ _ _ rfl (.cons _ _ _ _ _ rfl (.nil _))) | exact .cons _ _ _ _ _ rfl (.cons _ _ _ _ _ rfl (.cons _ _ _ _ _ rfl (.cons _ _ _ _ _ rfl (.cons _ _ _ _ _ rfl (.nil _)))))) ?_
      | refine AW_fieldAddr rfl tf_neg rfl rfl ?_ | refine AW_fieldAddr rfl tf_mag rfl rfl ?_ | refine AW_load rfl ty_bool rfl rfl rfl rfl ?_ | refine AW_load rfl ty_mag rfl rfl rfl rfl ?_ | refine AW_beq rfl Tryz.underlying4 rfl rfl ?_ | refine AW_bne rfl Tryz.underlying4 rfl rfl ?_ | refine AW_len rfl rfl Tryz.underlying22 ?_ | refine AW_ge rfl rfl rfl ?_ | refine AW_gt rfl rfl rfl ?_
      | refine AW_pickT rfl rfl rfl ?_
      | refine AW_pickF rfl rfl rfl ?_
      | refine AW_skip rfl rfl rfl rfl ?_
      | refine AW_pickTg rfl rfl rfl rfl rfl rfl ?_
      | refine AW_pickFg rfl rfl rfl rfl rfl rfl ?_
      | refine AW_moveg rfl rfl rfl rfl rfl ?_
      | refine AW_notg rfl rfl rfl rfl rfl ?_
      | refine AW_eqg rfl rfl rfl rfl rfl rfl ?_
      | refine AW_eq rfl rfl rfl ?_
      | refine AW_loadg rfl rfl rfl rfl ty_num rfl rfl rfl rfl ?_
      | refine AW_callg rfl rfl rfl rfl rfl (by first | exact k1) ?_
      | refine AW_nil (fun (h : false = true) => by cases h) ?_
      | refine AW_nil (fun (_ : true = true) => by kernel_rfl) ?_
      | refine Wp_block ?_
      | refine Wp_skip ?_
      | refine Wp_exit ?_
      | refine Wp_ret ?_
    refine Wp_condT rfl ?_
    repeat first
      | refine Wp_seq ?_
      | refine Wp_region tm_mixed ?_
      | refine AW_move rfl rfl ?_
      | refine AW_assign rfl rfl ?_
      | refine AW_load rfl ty_num rfl rfl rfl rfl ?_
      | refine AW_store ty_num rfl rfl rfl rfl rfl rfl rfl ?_
      | refine AW_extract rfl rfl rfl ?_
      | refine AW_alloc rfl tz_num ?_
      | refine AW_box rfl rfl (row := true) rfl (fun h => by cases h) rfl ?_
      | refine AW_not rfl rfl ?_
      | refine AW_build rfl tb_num rfl ?_
      | refine AW_call rfl rfl (by first | exact k1) ?_
      | refine AW_ints rfl tu_nums ti_num ti_size ti_zero rfl rfl rfl (by first | exact .cons _ _ _ _ _ rfl (.cons _ _ _ _ _ rfl (.nil _)) | exact .cons _ _ _ _ _ rfl (.cons _ _ _ _ _ rfl (.cons _ _ _ _ _ rfl (.cons _ _ _ _ _ rfl (.nil _)))) | exact .cons _ _ _ _ _ rfl (.cons _ _ _ _ _ rfl (.cons _ _ _ _ _ rfl (.nil _))) | exact .cons _ _ _ _ _ rfl (.cons _ _ _ _ _ rfl (.cons _ _ _ _ _ rfl (.cons _ _ _ _ _ rfl (.cons _ _ _ _ _ rfl (.nil _)))))) ?_
      | refine AW_fieldAddr rfl tf_neg rfl rfl ?_ | refine AW_fieldAddr rfl tf_mag rfl rfl ?_ | refine AW_load rfl ty_bool rfl rfl rfl rfl ?_ | refine AW_load rfl ty_mag rfl rfl rfl rfl ?_ | refine AW_beq rfl Tryz.underlying4 rfl rfl ?_ | refine AW_bne rfl Tryz.underlying4 rfl rfl ?_ | refine AW_len rfl rfl Tryz.underlying22 ?_ | refine AW_ge rfl rfl rfl ?_ | refine AW_gt rfl rfl rfl ?_
      | refine AW_pickT rfl rfl rfl ?_
      | refine AW_pickF rfl rfl rfl ?_
      | refine AW_skip rfl rfl rfl rfl ?_
      | refine AW_pickTg rfl rfl rfl rfl rfl rfl ?_
      | refine AW_pickFg rfl rfl rfl rfl rfl rfl ?_
      | refine AW_moveg rfl rfl rfl rfl rfl ?_
      | refine AW_notg rfl rfl rfl rfl rfl ?_
      | refine AW_eqg rfl rfl rfl rfl rfl rfl ?_
      | refine AW_eq rfl rfl rfl ?_
      | refine AW_loadg rfl rfl rfl rfl ty_num rfl rfl rfl rfl ?_
      | refine AW_callg rfl rfl rfl rfl rfl (by first | exact k1) ?_
      | refine AW_nil (fun (h : false = true) => by cases h) ?_
      | refine AW_nil (fun (_ : true = true) => by kernel_rfl) ?_
      | refine Wp_block ?_
      | refine Wp_skip ?_
      | refine Wp_exit ?_
      | refine Wp_ret ?_
    exact ⟨.inr rfl, _, .tmp _ _ _ _ rfl .nil, by rw [h0]; rfl⟩
  · have k1 := ct_IntZeroF x (by omega) h0
    repeat first
      | refine Wp_seq ?_
      | refine Wp_region tm_mixed ?_
      | refine AW_move rfl rfl ?_
      | refine AW_assign rfl rfl ?_
      | refine AW_load rfl ty_num rfl rfl rfl rfl ?_
      | refine AW_store ty_num rfl rfl rfl rfl rfl rfl rfl ?_
      | refine AW_extract rfl rfl rfl ?_
      | refine AW_alloc rfl tz_num ?_
      | refine AW_box rfl rfl (row := true) rfl (fun h => by cases h) rfl ?_
      | refine AW_not rfl rfl ?_
      | refine AW_build rfl tb_num rfl ?_
      | refine AW_call rfl rfl (by first | exact k1) ?_
      | refine AW_ints rfl tu_nums ti_num ti_size ti_zero rfl rfl rfl (by first | exact .cons _ _ _ _ _ rfl (.cons _ _ _ _ _ rfl (.nil _)) | exact .cons _ _ _ _ _ rfl (.cons _ _ _ _ _ rfl (.cons _ _ _ _ _ rfl (.cons _ _ _ _ _ rfl (.nil _)))) | exact .cons _ _ _ _ _ rfl (.cons _ _ _ _ _ rfl (.cons _ _ _ _ _ rfl (.nil _))) | exact .cons _ _ _ _ _ rfl (.cons _ _ _ _ _ rfl (.cons _ _ _ _ _ rfl (.cons _ _ _ _ _ rfl (.cons _ _ _ _ _ rfl (.nil _)))))) ?_
      | refine AW_fieldAddr rfl tf_neg rfl rfl ?_ | refine AW_fieldAddr rfl tf_mag rfl rfl ?_ | refine AW_load rfl ty_bool rfl rfl rfl rfl ?_ | refine AW_load rfl ty_mag rfl rfl rfl rfl ?_ | refine AW_beq rfl Tryz.underlying4 rfl rfl ?_ | refine AW_bne rfl Tryz.underlying4 rfl rfl ?_ | refine AW_len rfl rfl Tryz.underlying22 ?_ | refine AW_ge rfl rfl rfl ?_ | refine AW_gt rfl rfl rfl ?_
      | refine AW_pickT rfl rfl rfl ?_
      | refine AW_pickF rfl rfl rfl ?_
      | refine AW_skip rfl rfl rfl rfl ?_
      | refine AW_pickTg rfl rfl rfl rfl rfl rfl ?_
      | refine AW_pickFg rfl rfl rfl rfl rfl rfl ?_
      | refine AW_moveg rfl rfl rfl rfl rfl ?_
      | refine AW_notg rfl rfl rfl rfl rfl ?_
      | refine AW_eqg rfl rfl rfl rfl rfl rfl ?_
      | refine AW_eq rfl rfl rfl ?_
      | refine AW_loadg rfl rfl rfl rfl ty_num rfl rfl rfl rfl ?_
      | refine AW_callg rfl rfl rfl rfl rfl (by first | exact k1) ?_
      | refine AW_nil (fun (h : false = true) => by cases h) ?_
      | refine AW_nil (fun (_ : true = true) => by kernel_rfl) ?_
      | refine Wp_block ?_
      | refine Wp_skip ?_
      | refine Wp_exit ?_
      | refine Wp_ret ?_
    refine Wp_condF rfl ?_
    repeat first
      | refine Wp_seq ?_
      | refine Wp_region tm_mixed ?_
      | refine AW_move rfl rfl ?_
      | refine AW_assign rfl rfl ?_
      | refine AW_load rfl ty_num rfl rfl rfl rfl ?_
      | refine AW_store ty_num rfl rfl rfl rfl rfl rfl rfl ?_
      | refine AW_extract rfl rfl rfl ?_
      | refine AW_alloc rfl tz_num ?_
      | refine AW_box rfl rfl (row := true) rfl (fun h => by cases h) rfl ?_
      | refine AW_not rfl rfl ?_
      | refine AW_build rfl tb_num rfl ?_
      | refine AW_call rfl rfl (by first | exact k1) ?_
      | refine AW_ints rfl tu_nums ti_num ti_size ti_zero rfl rfl rfl (by first | exact .cons _ _ _ _ _ rfl (.cons _ _ _ _ _ rfl (.nil _)) | exact .cons _ _ _ _ _ rfl (.cons _ _ _ _ _ rfl (.cons _ _ _ _ _ rfl (.cons _ _ _ _ _ rfl (.nil _)))) | exact .cons _ _ _ _ _ rfl (.cons _ _ _ _ _ rfl (.cons _ _ _ _ _ rfl (.nil _))) | exact .cons _ _ _ _ _ rfl (.cons _ _ _ _ _ rfl (.cons _ _ _ _ _ rfl (.cons _ _ _ _ _ rfl (.cons _ _ _ _ _ rfl (.nil _)))))) ?_
      | refine AW_fieldAddr rfl tf_neg rfl rfl ?_ | refine AW_fieldAddr rfl tf_mag rfl rfl ?_ | refine AW_load rfl ty_bool rfl rfl rfl rfl ?_ | refine AW_load rfl ty_mag rfl rfl rfl rfl ?_ | refine AW_beq rfl Tryz.underlying4 rfl rfl ?_ | refine AW_bne rfl Tryz.underlying4 rfl rfl ?_ | refine AW_len rfl rfl Tryz.underlying22 ?_ | refine AW_ge rfl rfl rfl ?_ | refine AW_gt rfl rfl rfl ?_
      | refine AW_pickT rfl rfl rfl ?_
      | refine AW_pickF rfl rfl rfl ?_
      | refine AW_skip rfl rfl rfl rfl ?_
      | refine AW_pickTg rfl rfl rfl rfl rfl rfl ?_
      | refine AW_pickFg rfl rfl rfl rfl rfl rfl ?_
      | refine AW_moveg rfl rfl rfl rfl rfl ?_
      | refine AW_notg rfl rfl rfl rfl rfl ?_
      | refine AW_eqg rfl rfl rfl rfl rfl rfl ?_
      | refine AW_eq rfl rfl rfl ?_
      | refine AW_loadg rfl rfl rfl rfl ty_num rfl rfl rfl rfl ?_
      | refine AW_callg rfl rfl rfl rfl rfl (by first | exact k1) ?_
      | refine AW_nil (fun (h : false = true) => by cases h) ?_
      | refine AW_nil (fun (_ : true = true) => by kernel_rfl) ?_
      | refine Wp_block ?_
      | refine Wp_skip ?_
      | refine Wp_exit ?_
      | refine Wp_ret ?_
    refine Wp_cond rfl (fun hc => ?_) (fun hc => ?_)
    · have h : x < 0 := of_decide_eq_true hc
      repeat first
        | refine Wp_seq ?_
        | refine Wp_region tm_mixed ?_
        | refine AW_move rfl rfl ?_
        | refine AW_assign rfl rfl ?_
        | refine AW_load rfl ty_num rfl rfl rfl rfl ?_
        | refine AW_store ty_num rfl rfl rfl rfl rfl rfl rfl ?_
        | refine AW_extract rfl rfl rfl ?_
        | refine AW_alloc rfl tz_num ?_
        | refine AW_box rfl rfl (row := true) rfl (fun h => by cases h) rfl ?_
        | refine AW_not rfl rfl ?_
        | refine AW_build rfl tb_num rfl ?_
        | refine AW_call rfl rfl (by first | exact k1) ?_
        | refine AW_ints rfl tu_nums ti_num ti_size ti_zero rfl rfl rfl (by first | exact .cons _ _ _ _ _ rfl (.cons _ _ _ _ _ rfl (.nil _)) | exact .cons _ _ _ _ _ rfl (.cons _ _ _ _ _ rfl (.cons _ _ _ _ _ rfl (.cons _ _ _ _ _ rfl (.nil _)))) | exact .cons _ _ _ _ _ rfl (.cons _ _ _ _ _ rfl (.cons _ _ _ _ _ rfl (.nil _))) | exact .cons _ _ _ _ _ rfl (.cons _ _ _ _ _ rfl (.cons _ _ _ _ _ rfl (.cons _ _ _ _ _ rfl (.cons _ _ _ _ _ rfl (.nil _)))))) ?_
        | refine AW_fieldAddr rfl tf_neg rfl rfl ?_ | refine AW_fieldAddr rfl tf_mag rfl rfl ?_ | refine AW_load rfl ty_bool rfl rfl rfl rfl ?_ | refine AW_load rfl ty_mag rfl rfl rfl rfl ?_ | refine AW_beq rfl Tryz.underlying4 rfl rfl ?_ | refine AW_bne rfl Tryz.underlying4 rfl rfl ?_ | refine AW_len rfl rfl Tryz.underlying22 ?_ | refine AW_ge rfl rfl rfl ?_ | refine AW_gt rfl rfl rfl ?_
        | refine AW_pickT rfl rfl rfl ?_
        | refine AW_pickF rfl rfl rfl ?_
        | refine AW_skip rfl rfl rfl rfl ?_
        | refine AW_pickTg rfl rfl rfl rfl rfl rfl ?_
        | refine AW_pickFg rfl rfl rfl rfl rfl rfl ?_
        | refine AW_moveg rfl rfl rfl rfl rfl ?_
        | refine AW_notg rfl rfl rfl rfl rfl ?_
        | refine AW_eqg rfl rfl rfl rfl rfl rfl ?_
        | refine AW_eq rfl rfl rfl ?_
        | refine AW_loadg rfl rfl rfl rfl ty_num rfl rfl rfl rfl ?_
        | refine AW_callg rfl rfl rfl rfl rfl (by first | exact k1) ?_
        | refine AW_nil (fun (h : false = true) => by cases h) ?_
        | refine AW_nil (fun (_ : true = true) => by kernel_rfl) ?_
        | refine Wp_block ?_
        | refine Wp_skip ?_
        | refine Wp_exit ?_
        | refine Wp_ret ?_
      exact ⟨.inr rfl, _, .tmp _ _ _ _ rfl .nil, by rw [Int.sign_eq_neg_one_of_neg h]; rfl⟩
    · have h : ¬ x < 0 := of_decide_eq_false hc
      repeat first
        | refine Wp_seq ?_
        | refine Wp_region tm_mixed ?_
        | refine AW_move rfl rfl ?_
        | refine AW_assign rfl rfl ?_
        | refine AW_load rfl ty_num rfl rfl rfl rfl ?_
        | refine AW_store ty_num rfl rfl rfl rfl rfl rfl rfl ?_
        | refine AW_extract rfl rfl rfl ?_
        | refine AW_alloc rfl tz_num ?_
        | refine AW_box rfl rfl (row := true) rfl (fun h => by cases h) rfl ?_
        | refine AW_not rfl rfl ?_
        | refine AW_build rfl tb_num rfl ?_
        | refine AW_call rfl rfl (by first | exact k1) ?_
        | refine AW_ints rfl tu_nums ti_num ti_size ti_zero rfl rfl rfl (by first | exact .cons _ _ _ _ _ rfl (.cons _ _ _ _ _ rfl (.nil _)) | exact .cons _ _ _ _ _ rfl (.cons _ _ _ _ _ rfl (.cons _ _ _ _ _ rfl (.cons _ _ _ _ _ rfl (.nil _)))) | exact .cons _ _ _ _ _ rfl (.cons _ _ _ _ _ rfl (.cons _ _ _ _ _ rfl (.nil _))) | exact .cons _ _ _ _ _ rfl (.cons _ _ _ _ _ rfl (.cons _ _ _ _ _ rfl (.cons _ _ _ _ _ rfl (.cons _ _ _ _ _ rfl (.nil _)))))) ?_
        | refine AW_fieldAddr rfl tf_neg rfl rfl ?_ | refine AW_fieldAddr rfl tf_mag rfl rfl ?_ | refine AW_load rfl ty_bool rfl rfl rfl rfl ?_ | refine AW_load rfl ty_mag rfl rfl rfl rfl ?_ | refine AW_beq rfl Tryz.underlying4 rfl rfl ?_ | refine AW_bne rfl Tryz.underlying4 rfl rfl ?_ | refine AW_len rfl rfl Tryz.underlying22 ?_ | refine AW_ge rfl rfl rfl ?_ | refine AW_gt rfl rfl rfl ?_
        | refine AW_pickT rfl rfl rfl ?_
        | refine AW_pickF rfl rfl rfl ?_
        | refine AW_skip rfl rfl rfl rfl ?_
        | refine AW_pickTg rfl rfl rfl rfl rfl rfl ?_
        | refine AW_pickFg rfl rfl rfl rfl rfl rfl ?_
        | refine AW_moveg rfl rfl rfl rfl rfl ?_
        | refine AW_notg rfl rfl rfl rfl rfl ?_
        | refine AW_eqg rfl rfl rfl rfl rfl rfl ?_
        | refine AW_eq rfl rfl rfl ?_
        | refine AW_loadg rfl rfl rfl rfl ty_num rfl rfl rfl rfl ?_
        | refine AW_callg rfl rfl rfl rfl rfl (by first | exact k1) ?_
        | refine AW_nil (fun (h : false = true) => by cases h) ?_
        | refine AW_nil (fun (_ : true = true) => by kernel_rfl) ?_
        | refine Wp_block ?_
        | refine Wp_skip ?_
        | refine Wp_exit ?_
        | refine Wp_ret ?_
      exact ⟨.inr rfl, _, .tmp _ _ _ _ rfl .nil, by rw [Int.sign_eq_one_of_pos (by omega)]; rfl⟩
set_option maxRecDepth 100000 in
theorem ct_KLong (x : Int) (hx : lc x.natAbs ≤ 68719476736) : Ct Tryz.prog 77 [aZ x] (.val (aB (decide ((4096 : Int) < (lc x.natAbs : Int))))) := by
  refine ct_of_wp [.tmp 2] [(0, aZ x)] 8 Tryz.func77 rfl rfl rfl rfl rfl rfl rfl rfl ?_
  intro G0 w0
  have k1 := ct_NatTrim x.natAbs (by omega)
  repeat first
    | refine Wp_seq ?_
    | refine Wp_region tm_mixed ?_
    | refine AW_move rfl rfl ?_
    | refine AW_assign rfl rfl ?_
    | refine AW_load rfl ty_num rfl rfl rfl rfl ?_
    | refine AW_store ty_num rfl rfl rfl rfl rfl rfl rfl ?_
    | refine AW_extract rfl rfl rfl ?_
    | refine AW_alloc rfl tz_num ?_
    | refine AW_box rfl rfl (row := true) rfl (fun h => by cases h) rfl ?_
    | refine AW_not rfl rfl ?_
    | refine AW_build rfl tb_num rfl ?_
    | refine AW_call rfl rfl (by first | exact k1) ?_
    | refine AW_ints rfl tu_nums ti_num ti_size ti_zero rfl rfl rfl (by first | exact .cons _ _ _ _ _ rfl (.cons _ _ _ _ _ rfl (.nil _)) | exact .cons _ _ _ _ _ rfl (.cons _ _ _ _ _ rfl (.cons _ _ _ _ _ rfl (.cons _ _ _ _ _ rfl (.nil _)))) | exact .cons _ _ _ _ _ rfl (.cons _ _ _ _ _ rfl (.cons _ _ _ _ _ rfl (.nil _))) | exact .cons _ _ _ _ _ rfl (.cons _ _ _ _ _ rfl (.cons _ _ _ _ _ rfl (.cons _ _ _ _ _ rfl (.cons _ _ _ _ _ rfl (.nil _)))))) ?_
    | refine AW_fieldAddr rfl tf_neg rfl rfl ?_ | refine AW_fieldAddr rfl tf_mag rfl rfl ?_ | refine AW_load rfl ty_bool rfl rfl rfl rfl ?_ | refine AW_load rfl ty_mag rfl rfl rfl rfl ?_ | refine AW_beq rfl Tryz.underlying4 rfl rfl ?_ | refine AW_bne rfl Tryz.underlying4 rfl rfl ?_ | refine AW_len rfl rfl Tryz.underlying22 ?_ | refine AW_ge rfl rfl rfl ?_ | refine AW_gt rfl rfl rfl ?_
    | refine AW_pickT rfl rfl rfl ?_
    | refine AW_pickF rfl rfl rfl ?_
    | refine AW_skip rfl rfl rfl rfl ?_
    | refine AW_pickTg rfl rfl rfl rfl rfl rfl ?_
    | refine AW_pickFg rfl rfl rfl rfl rfl rfl ?_
    | refine AW_moveg rfl rfl rfl rfl rfl ?_
    | refine AW_notg rfl rfl rfl rfl rfl ?_
    | refine AW_eqg rfl rfl rfl rfl rfl rfl ?_
    | refine AW_eq rfl rfl rfl ?_
    | refine AW_loadg rfl rfl rfl rfl ty_num rfl rfl rfl rfl ?_
    | refine AW_callg rfl rfl rfl rfl rfl (by first | exact k1) ?_
    | refine AW_nil (fun (h : false = true) => by cases h) ?_
    | refine AW_nil (fun (_ : true = true) => by kernel_rfl) ?_
    | refine Wp_block ?_
    | refine Wp_skip ?_
    | refine Wp_exit ?_
    | refine Wp_ret ?_
  exact ⟨.inr rfl, _, .tmp _ _ _ _ rfl .nil, rfl⟩
set_option maxRecDepth 100000 in
theorem ct_NatGcd (a b : Nat) (ha : lc a ≤ 1000000) (hb : lc b ≤ 1000000) : Ct Tryz.prog 116 [aN a, aN b] (aN (Nat.gcd a b)) := by
  refine ct_of_wp [.tmp 4] [(0, aN a), (1, aN b)] 25 Tryz.func116 rfl rfl rfl rfl rfl rfl rfl rfl ?_
  intro G0 w0
  have k1 := ct_NatTrim a (by omega)
  have k2 := ct_NatTrim b (by omega)
  repeat first
    | refine Wp_seq ?_
    | refine Wp_region tm_mixed ?_
    | refine AW_move rfl rfl ?_
    | refine AW_assign rfl rfl ?_
    | refine AW_load rfl ty_num rfl rfl rfl rfl ?_
    | refine AW_store ty_num rfl rfl rfl rfl rfl rfl rfl ?_
    | refine AW_extract rfl rfl rfl ?_
    | refine AW_alloc rfl tz_num ?_
    | refine AW_box rfl rfl (row := true) rfl (fun h => by cases h) rfl ?_
    | refine AW_not rfl rfl ?_
    | refine AW_build rfl tb_num rfl ?_
    | refine AW_call rfl rfl (by first | exact k1 | exact k2) ?_
    | refine AW_ints rfl tu_nums ti_num ti_size ti_zero rfl rfl rfl (by first | exact .cons _ _ _ _ _ rfl (.cons _ _ _ _ _ rfl (.nil _)) | exact .cons _ _ _ _ _ rfl (.cons _ _ _ _ _ rfl (.cons _ _ _ _ _ rfl (.cons _ _ _ _ _ rfl (.nil _)))) | exact .cons _ _ _ _ _ rfl (.cons _ _ _ _ _ rfl (.cons _ _ _ _ _ rfl (.nil _))) | exact .cons _ _ _ _ _ rfl (.cons _ _ _ _ _ rfl (.cons _ _ _ _ _ rfl (.cons _ _ _ _ _ rfl (.cons _ _ _ _ _ rfl (.nil _)))))) ?_
    | refine AW_fieldAddr rfl tf_neg rfl rfl ?_ | refine AW_fieldAddr rfl tf_mag rfl rfl ?_ | refine AW_load rfl ty_bool rfl rfl rfl rfl ?_ | refine AW_load rfl ty_mag rfl rfl rfl rfl ?_ | refine AW_beq rfl Tryz.underlying4 rfl rfl ?_ | refine AW_bne rfl Tryz.underlying4 rfl rfl ?_ | refine AW_len rfl rfl Tryz.underlying22 ?_ | refine AW_ge rfl rfl rfl ?_ | refine AW_gt rfl rfl rfl ?_
    | refine AW_pickT rfl rfl rfl ?_
    | refine AW_pickF rfl rfl rfl ?_
    | refine AW_skip rfl rfl rfl rfl ?_
    | refine AW_pickTg rfl rfl rfl rfl rfl rfl ?_
    | refine AW_pickFg rfl rfl rfl rfl rfl rfl ?_
    | refine AW_moveg rfl rfl rfl rfl rfl ?_
    | refine AW_notg rfl rfl rfl rfl rfl ?_
    | refine AW_eqg rfl rfl rfl rfl rfl rfl ?_
    | refine AW_eq rfl rfl rfl ?_
    | refine AW_loadg rfl rfl rfl rfl ty_num rfl rfl rfl rfl ?_
    | refine AW_callg rfl rfl rfl rfl rfl (by first | exact k1 | exact k2) ?_
    | refine AW_nil (fun (h : false = true) => by cases h) ?_
    | refine AW_nil (fun (_ : true = true) => by kernel_rfl) ?_
    | refine Wp_block ?_
    | refine Wp_skip ?_
    | refine Wp_exit ?_
    | refine Wp_ret ?_
  refine Wp_loop (fun p : Nat × Nat => ⟨[(5, aN p.1), (6, aN p.2)], [], 0⟩) (fun p => Nat.gcd p.1 p.2 = Nat.gcd a b ∧ lc p.1 ≤ 1000000 ∧ lc p.2 ≤ 1000000) (fun p => p.2) (a, b) ⟨rfl, ha, hb⟩ (le_of ⟨rfl, rfl, trivial⟩ trivial rfl) ?_
  rintro ⟨x, y⟩ ⟨hg, hx, hy⟩
  dsimp only at hg hx hy ⊢
  repeat first
    | refine Wp_seq ?_
    | refine Wp_region tm_mixed ?_
    | refine AW_move rfl rfl ?_
    | refine AW_assign rfl rfl ?_
    | refine AW_load rfl ty_num rfl rfl rfl rfl ?_
    | refine AW_store ty_num rfl rfl rfl rfl rfl rfl rfl ?_
    | refine AW_extract rfl rfl rfl ?_
    | refine AW_alloc rfl tz_num ?_
    | refine AW_box rfl rfl (row := true) rfl (fun h => by cases h) rfl ?_
    | refine AW_not rfl rfl ?_
    | refine AW_build rfl tb_num rfl ?_
    | refine AW_call rfl rfl (by first | exact k1) ?_
    | refine AW_ints rfl tu_nums ti_num ti_size ti_zero rfl rfl rfl (by first | exact .cons _ _ _ _ _ rfl (.cons _ _ _ _ _ rfl (.nil _)) | exact .cons _ _ _ _ _ rfl (.cons _ _ _ _ _ rfl (.cons _ _ _ _ _ rfl (.cons _ _ _ _ _ rfl (.nil _)))) | exact .cons _ _ _ _ _ rfl (.cons _ _ _ _ _ rfl (.cons _ _ _ _ _ rfl (.nil _))) | exact .cons _ _ _ _ _ rfl (.cons _ _ _ _ _ rfl (.cons _ _ _ _ _ rfl (.cons _ _ _ _ _ rfl (.cons _ _ _ _ _ rfl (.nil _)))))) ?_
    | refine AW_fieldAddr rfl tf_neg rfl rfl ?_ | refine AW_fieldAddr rfl tf_mag rfl rfl ?_ | refine AW_load rfl ty_bool rfl rfl rfl rfl ?_ | refine AW_load rfl ty_mag rfl rfl rfl rfl ?_ | refine AW_beq rfl Tryz.underlying4 rfl rfl ?_ | refine AW_bne rfl Tryz.underlying4 rfl rfl ?_ | refine AW_len rfl rfl Tryz.underlying22 ?_ | refine AW_ge rfl rfl rfl ?_ | refine AW_gt rfl rfl rfl ?_
    | refine AW_pickT rfl rfl rfl ?_
    | refine AW_pickF rfl rfl rfl ?_
    | refine AW_skip rfl rfl rfl rfl ?_
    | refine AW_pickTg rfl rfl rfl rfl rfl rfl ?_
    | refine AW_pickFg rfl rfl rfl rfl rfl rfl ?_
    | refine AW_moveg rfl rfl rfl rfl rfl ?_
    | refine AW_notg rfl rfl rfl rfl rfl ?_
    | refine AW_eqg rfl rfl rfl rfl rfl rfl ?_
    | refine AW_eq rfl rfl rfl ?_
    | refine AW_loadg rfl rfl rfl rfl ty_num rfl rfl rfl rfl ?_
    | refine AW_callg rfl rfl rfl rfl rfl (by first | exact k1) ?_
    | refine AW_nil (fun (h : false = true) => by cases h) ?_
    | refine AW_nil (fun (_ : true = true) => by kernel_rfl) ?_
    | refine Wp_block ?_
    | refine Wp_skip ?_
    | refine Wp_exit ?_
    | refine Wp_ret ?_
  refine Wp_cond rfl (fun hc => ?_) (fun hc => ?_)
  · have hn : y ≠ 0 := by
      intro e
      subst e
      have h := of_decide_eq_true hc
      rw [limbs_zero] at h
      exact absurd h (by decide)
    have k3 := ct_NatDiv x y (by omega) (by omega) hn
    repeat first
      | refine Wp_seq ?_
      | refine Wp_region tm_mixed ?_
      | refine AW_move rfl rfl ?_
      | refine AW_assign rfl rfl ?_
      | refine AW_load rfl ty_num rfl rfl rfl rfl ?_
      | refine AW_store ty_num rfl rfl rfl rfl rfl rfl rfl ?_
      | refine AW_extract rfl rfl rfl ?_
      | refine AW_alloc rfl tz_num ?_
      | refine AW_box rfl rfl (row := true) rfl (fun h => by cases h) rfl ?_
      | refine AW_not rfl rfl ?_
      | refine AW_build rfl tb_num rfl ?_
      | refine AW_call rfl rfl (by first | exact k3) ?_
      | refine AW_ints rfl tu_nums ti_num ti_size ti_zero rfl rfl rfl (by first | exact .cons _ _ _ _ _ rfl (.cons _ _ _ _ _ rfl (.nil _)) | exact .cons _ _ _ _ _ rfl (.cons _ _ _ _ _ rfl (.cons _ _ _ _ _ rfl (.cons _ _ _ _ _ rfl (.nil _)))) | exact .cons _ _ _ _ _ rfl (.cons _ _ _ _ _ rfl (.cons _ _ _ _ _ rfl (.nil _))) | exact .cons _ _ _ _ _ rfl (.cons _ _ _ _ _ rfl (.cons _ _ _ _ _ rfl (.cons _ _ _ _ _ rfl (.cons _ _ _ _ _ rfl (.nil _)))))) ?_
      | refine AW_fieldAddr rfl tf_neg rfl rfl ?_ | refine AW_fieldAddr rfl tf_mag rfl rfl ?_ | refine AW_load rfl ty_bool rfl rfl rfl rfl ?_ | refine AW_load rfl ty_mag rfl rfl rfl rfl ?_ | refine AW_beq rfl Tryz.underlying4 rfl rfl ?_ | refine AW_bne rfl Tryz.underlying4 rfl rfl ?_ | refine AW_len rfl rfl Tryz.underlying22 ?_ | refine AW_ge rfl rfl rfl ?_ | refine AW_gt rfl rfl rfl ?_
      | refine AW_pickT rfl rfl rfl ?_
      | refine AW_pickF rfl rfl rfl ?_
      | refine AW_skip rfl rfl rfl rfl ?_
      | refine AW_pickTg rfl rfl rfl rfl rfl rfl ?_
      | refine AW_pickFg rfl rfl rfl rfl rfl rfl ?_
      | refine AW_moveg rfl rfl rfl rfl rfl ?_
      | refine AW_notg rfl rfl rfl rfl rfl ?_
      | refine AW_eqg rfl rfl rfl rfl rfl rfl ?_
      | refine AW_eq rfl rfl rfl ?_
      | refine AW_loadg rfl rfl rfl rfl ty_num rfl rfl rfl rfl ?_
      | refine AW_callg rfl rfl rfl rfl rfl (by first | exact k3) ?_
      | refine AW_nil (fun (h : false = true) => by cases h) ?_
      | refine AW_nil (fun (_ : true = true) => by kernel_rfl) ?_
      | refine Wp_block ?_
      | refine Wp_skip ?_
      | refine Wp_exit ?_
      | refine Wp_ret ?_
    exact ⟨(y, x % y), ⟨by show Nat.gcd y (x % y) = _; rw [Nat.gcd_comm y, ← Nat.gcd_rec, Nat.gcd_comm]; exact hg, hy, Nat.le_trans (lc_mono (Nat.le_of_lt (Nat.mod_lt _ (Nat.pos_of_ne_zero hn)))) hy⟩, le_of ⟨rfl, rfl, trivial⟩ trivial rfl, Nat.mod_lt _ (Nat.pos_of_ne_zero hn)⟩
  · have hn : y = 0 := by
      have h := of_decide_eq_false hc
      exact limbs_eq_nil.1 (List.eq_nil_of_length_eq_zero (by omega))
    subst hn
    rw [Nat.gcd_zero_right] at hg
    rw [← hg]
    repeat first
      | refine Wp_seq ?_
      | refine Wp_region tm_mixed ?_
      | refine AW_move rfl rfl ?_
      | refine AW_assign rfl rfl ?_
      | refine AW_load rfl ty_num rfl rfl rfl rfl ?_
      | refine AW_store ty_num rfl rfl rfl rfl rfl rfl rfl ?_
      | refine AW_extract rfl rfl rfl ?_
      | refine AW_alloc rfl tz_num ?_
      | refine AW_box rfl rfl (row := true) rfl (fun h => by cases h) rfl ?_
      | refine AW_not rfl rfl ?_
      | refine AW_build rfl tb_num rfl ?_
      | refine AW_call rfl rfl (by first | exact k1) ?_
      | refine AW_ints rfl tu_nums ti_num ti_size ti_zero rfl rfl rfl (by first | exact .cons _ _ _ _ _ rfl (.cons _ _ _ _ _ rfl (.nil _)) | exact .cons _ _ _ _ _ rfl (.cons _ _ _ _ _ rfl (.cons _ _ _ _ _ rfl (.cons _ _ _ _ _ rfl (.nil _)))) | exact .cons _ _ _ _ _ rfl (.cons _ _ _ _ _ rfl (.cons _ _ _ _ _ rfl (.nil _))) | exact .cons _ _ _ _ _ rfl (.cons _ _ _ _ _ rfl (.cons _ _ _ _ _ rfl (.cons _ _ _ _ _ rfl (.cons _ _ _ _ _ rfl (.nil _)))))) ?_
      | refine AW_fieldAddr rfl tf_neg rfl rfl ?_ | refine AW_fieldAddr rfl tf_mag rfl rfl ?_ | refine AW_load rfl ty_bool rfl rfl rfl rfl ?_ | refine AW_load rfl ty_mag rfl rfl rfl rfl ?_ | refine AW_beq rfl Tryz.underlying4 rfl rfl ?_ | refine AW_bne rfl Tryz.underlying4 rfl rfl ?_ | refine AW_len rfl rfl Tryz.underlying22 ?_ | refine AW_ge rfl rfl rfl ?_ | refine AW_gt rfl rfl rfl ?_
      | refine AW_pickT rfl rfl rfl ?_
      | refine AW_pickF rfl rfl rfl ?_
      | refine AW_skip rfl rfl rfl rfl ?_
      | refine AW_pickTg rfl rfl rfl rfl rfl rfl ?_
      | refine AW_pickFg rfl rfl rfl rfl rfl rfl ?_
      | refine AW_moveg rfl rfl rfl rfl rfl ?_
      | refine AW_notg rfl rfl rfl rfl rfl ?_
      | refine AW_eqg rfl rfl rfl rfl rfl rfl ?_
      | refine AW_eq rfl rfl rfl ?_
      | refine AW_loadg rfl rfl rfl rfl ty_num rfl rfl rfl rfl ?_
      | refine AW_callg rfl rfl rfl rfl rfl (by first | exact k1) ?_
      | refine AW_nil (fun (h : false = true) => by cases h) ?_
      | refine AW_nil (fun (_ : true = true) => by kernel_rfl) ?_
      | refine Wp_block ?_
      | refine Wp_skip ?_
      | refine Wp_exit ?_
      | refine Wp_ret ?_
    exact ⟨.inr rfl, _, .tmp _ _ _ _ rfl .nil, rfl⟩
end Go.Proofs.YtonbhpadoplpkaaGreat
/- Plain: the rows of the common divisor's run, and how often both stand in them. -/
namespace Go.Proofs.YtonbhpadoplpkaaGreat
/-- Two rows of the run of A and B. -/
structure GRow (A B : Nat) (whole : Bool) (r0 r1 : Nat) (x0 y0 x1 y1 : Int) : Prop where
  g : Nat.gcd r0 r1 = Nat.gcd A B
  m0 : r0 ≤ max A B
  m1 : r1 ≤ max A B
  bx0 : x0.natAbs ≤ max B 1
  by0 : y0.natAbs ≤ max A 1
  bx1 : x1.natAbs ≤ max B 1
  by1 : y1.natAbs ≤ max A 1
  made0 : whole = true → (A : Int) * x0 + B * y0 = r0
  made1 : whole = true → (A : Int) * x1 + B * y1 = r1
  sx : whole = true → x1.natAbs * r0 + x0.natAbs * r1 = B
  sy : whole = true → y1.natAbs * r0 + y0.natAbs * r1 = A
  turn : whole = true → (0 ≤ x0 ∧ x1 ≤ 0 ∧ y0 ≤ 0 ∧ 0 ≤ y1) ∨ (x0 ≤ 0 ∧ 0 ≤ x1 ∧ 0 ≤ y0 ∧ y1 ≤ 0)
theorem GRow.start (A B : Nat) (whole : Bool) : GRow A B whole A B 1 0 0 1 where
  g := rfl
  m0 := Nat.le_max_left _ _
  m1 := Nat.le_max_right _ _
  bx0 := Nat.le_max_right _ _
  by0 := Nat.zero_le _
  bx1 := Nat.zero_le _
  by1 := Nat.le_max_right _ _
  made0 := fun _ => by omega
  made1 := fun _ => by omega
  sx := fun _ => by simp
  sy := fun _ => by simp
  turn := fun _ => by omega
/-- A number less a multiple of one of the other sign: the sizes add. -/
theorem sizes_add {u v : Int} {q : Nat} (h : (0 ≤ u ∧ v ≤ 0) ∨ (u ≤ 0 ∧ 0 ≤ v)) : (u - (q : Int) * v).natAbs = u.natAbs + q * v.natAbs := by
  rcases h with ⟨h1, h2⟩ | ⟨h1, h2⟩
  · have h3 : 0 ≤ (q : Int) * (-v) := Int.mul_nonneg (by omega) (by omega)
    have h4 : (q : Int) * (-v) = ((q * v.natAbs : Nat) : Int) := by rw [Int.natCast_mul]; congr 1; omega
    rw [Int.mul_neg] at h3 h4
    omega
  · have h4 : (q : Int) * v = ((q * v.natAbs : Nat) : Int) := by rw [Int.natCast_mul]; congr 1; omega
    rw [h4]
    omega
theorem side_of {u v : Int} {q : Nat} (h : (0 ≤ u ∧ v ≤ 0)) : 0 ≤ u - (q : Int) * v := by
  have h3 : 0 ≤ (q : Int) * (-v) := Int.mul_nonneg (by omega) (by omega)
  rw [Int.mul_neg] at h3; omega
theorem side_of' {u v : Int} {q : Nat} (h : (u ≤ 0 ∧ 0 ≤ v)) : u - (q : Int) * v ≤ 0 := by
  have h3 : 0 ≤ (q : Int) * v := Int.mul_nonneg (by omega) (by omega)
  omega
theorem sum_step {a b r0 r1 q : Nat} {n : Nat} (hq : r0 = r1 * q + r0 % r1) (h : b * r0 + a * r1 = n) : (a + q * b) * r1 + b * (r0 % r1) = n := by
  obtain ⟨s, hs⟩ : ∃ s, r0 % r1 = s := ⟨_, rfl⟩
  rw [hs] at hq ⊢
  subst hq
  rw [Nat.add_mul, Nat.mul_add] at *
  rw [← h, Nat.mul_comm q b, Nat.mul_assoc, Nat.mul_comm q r1]
  omega
theorem made_step {A B x0 y0 x1 y1 : Int} {r0 r1 : Nat} (h0 : A * x0 + B * y0 = r0) (h1 : A * x1 + B * y1 = r1) : A * (x0 - ((r0 / r1 : Nat) : Int) * x1) + B * (y0 - ((r0 / r1 : Nat) : Int) * y1) = ((r0 % r1 : Nat) : Int) := by
  have hq : (r0 : Int) = r1 * ((r0 / r1 : Nat) : Int) + ((r0 % r1 : Nat) : Int) := by
    rw [← Int.natCast_mul, ← Int.natCast_add, Nat.div_add_mod]
  obtain ⟨q, hqq⟩ : ∃ q : Int, ((r0 / r1 : Nat) : Int) = q := ⟨_, rfl⟩
  rw [hqq] at hq ⊢
  have e : A * (x0 - q * x1) + B * (y0 - q * y1) = (A * x0 + B * y0) - (A * x1 + B * y1) * q := by
    rw [Int.mul_sub, Int.mul_sub, Int.add_mul, Int.mul_comm q x1, Int.mul_comm q y1, ← Int.mul_assoc, ← Int.mul_assoc]
    omega
  rw [e, h0, h1]
  omega
theorem small_of {n r k : Nat} (hr : 0 < r) (h : n * r ≤ k) : n ≤ max k 1 :=
  Nat.le_trans (Nat.le_trans (Nat.le_mul_of_pos_right n hr) h) (Nat.le_max_left _ _)
/-- The step: the rest, and each number less q times the next. -/
theorem GRow.step {A B : Nat} {whole : Bool} {r0 r1 : Nat} {x0 y0 x1 y1 : Int} (h : GRow A B whole r0 r1 x0 y0 x1 y1) (h1 : r1 ≠ 0) :
    GRow A B whole r1 (r0 % r1) x1 y1 (if whole = true then x0 - ((r0 / r1 : Nat) : Int) * x1 else 0) (if whole = true then y0 - ((r0 / r1 : Nat) : Int) * y1 else 0) := by
  have hq : r0 = r1 * (r0 / r1) + r0 % r1 := (Nat.div_add_mod r0 r1).symm
  have hlt : r0 % r1 < r1 := Nat.mod_lt _ (by omega)
  have hm := h.m1
  have hg : Nat.gcd r1 (r0 % r1) = Nat.gcd A B := by
    rw [← h.g, Nat.gcd_comm r1, ← Nat.gcd_rec, Nat.gcd_comm]
  by_cases hw : whole = true
  · rw [if_pos hw, if_pos hw]
    have ex : (x0 - ((r0 / r1 : Nat) : Int) * x1).natAbs = x0.natAbs + r0 / r1 * x1.natAbs := sizes_add (by have := h.turn hw; omega)
    have ey : (y0 - ((r0 / r1 : Nat) : Int) * y1).natAbs = y0.natAbs + r0 / r1 * y1.natAbs := sizes_add (by have := h.turn hw; omega)
    have hsx : (x0 - ((r0 / r1 : Nat) : Int) * x1).natAbs * r1 + x1.natAbs * (r0 % r1) = B := by rw [ex]; exact sum_step hq (h.sx hw)
    have hsy : (y0 - ((r0 / r1 : Nat) : Int) * y1).natAbs * r1 + y1.natAbs * (r0 % r1) = A := by rw [ey]; exact sum_step hq (h.sy hw)
    refine ⟨hg, hm, by omega, h.bx1, h.by1, small_of (by omega) (Nat.le_trans (Nat.le_add_right _ _) (Nat.le_of_eq hsx)), small_of (by omega) (Nat.le_trans (Nat.le_add_right _ _) (Nat.le_of_eq hsy)), h.made1, fun _ => made_step (h.made0 hw) (h.made1 hw), fun _ => hsx, fun _ => hsy, fun _ => ?_⟩
    rcases h.turn hw with ⟨a, b, c, d⟩ | ⟨a, b, c, d⟩
    · exact .inr ⟨b, side_of ⟨a, b⟩, d, side_of' ⟨c, d⟩⟩
    · exact .inl ⟨b, side_of' ⟨a, b⟩, d, side_of ⟨c, d⟩⟩
  · rw [if_neg hw, if_neg hw]
    exact ⟨hg, hm, by omega, h.bx1, h.by1, Nat.zero_le _, Nat.zero_le _, fun e => absurd e hw, fun e => absurd e hw, fun e => absurd e hw, fun e => absurd e hw, fun e => absurd e hw⟩
theorem lc_max {m n a k : Nat} (hm : lc m ≤ k) (hn : lc n ≤ k) (h : a ≤ max m n) : lc a ≤ k := by
  rcases Nat.le_total m n with h1 | h1
  · rw [Nat.max_eq_right h1] at h; exact Nat.le_trans (lc_mono h) hn
  · rw [Nat.max_eq_left h1] at h; exact Nat.le_trans (lc_mono h) hm
theorem GRow.small {A B : Nat} {whole : Bool} {r0 r1 : Nat} {x0 y0 x1 y1 : Int} (h : GRow A B whole r0 r1 x0 y0 x1 y1) (ha : lc A ≤ 90) (hb : lc B ≤ 90) :
    lc r0 ≤ 90 ∧ lc r1 ≤ 90 ∧ lc x0.natAbs ≤ 90 ∧ lc y0.natAbs ≤ 90 ∧ lc x1.natAbs ≤ 90 ∧ lc y1.natAbs ≤ 90 := by
  have h1 : lc 1 ≤ 90 := by
    have h2 : lc 1 ≤ 1 := lc_le.2 (by rw [Nat.pow_one, W64_eq]; decide)
    omega
  exact ⟨lc_max ha hb h.m0, lc_max ha hb h.m1, lc_max hb h1 h.bx0, lc_max ha h1 h.by0, lc_max hb h1 h.bx1, lc_max ha h1 h.by1⟩
theorem GRow.told {A B : Nat} {whole : Bool} {r0 : Nat} {x0 y0 x1 y1 : Int} (h : GRow A B whole r0 0 x0 y0 x1 y1) : r0 = Nat.gcd A B := by
  rw [← h.g, Nat.gcd_zero_right]
end Go.Proofs.YtonbhpadoplpkaaGreat
/- The package gcd, by the abstract machine: run. -/
namespace Go.Proofs.YtonbhpadoplpkaaGreat
open Go.RowKit Go.Deep
/-- The run from rest to rest. -/
def euc (whole : Bool) (n0 n1 : Nat) (x0 y0 x1 y1 : Int) : Nat × Int × Int :=
  if _h : n1 = 0 then (n0, x0, y0)
  else euc whole n1 (n0 % n1) x1 y1 (if whole = true then x0 - ((n0 / n1 : Nat) : Int) * x1 else 0) (if whole = true then y0 - ((n0 / n1 : Nat) : Int) * y1 else 0)
termination_by n1
decreasing_by exact Nat.mod_lt _ (Nat.pos_of_ne_zero _h)
theorem euc_zero (whole : Bool) (n0 : Nat) (x0 y0 x1 y1 : Int) : euc whole n0 0 x0 y0 x1 y1 = (n0, x0, y0) := by rw [euc, dif_pos rfl]
theorem euc_step (whole : Bool) (n0 n1 : Nat) (x0 y0 x1 y1 : Int) (h : n1 ≠ 0) : euc whole n0 n1 x0 y0 x1 y1 =
    euc whole n1 (n0 % n1) x1 y1 (if whole = true then x0 - ((n0 / n1 : Nat) : Int) * x1 else 0) (if whole = true then y0 - ((n0 / n1 : Nat) : Int) * y1 else 0) := by rw [euc, dif_neg h]
def eucR (whole : Bool) (a b : Nat) : Nat × Int × Int := euc whole a b 1 0 0 1
theorem rawOf_zero : rawOf 0 = (false, []) := by unfold rawOf; rw [show (0 : Int).natAbs = 0 from rfl, limbs_zero]; rfl
theorem rawOf_len {n : Nat} : (rawOf (n : Int)).2.length = 0 ↔ n = 0 := by
  show (limbs (n : Int).natAbs).length = 0 ↔ n = 0
  rw [Int.natAbs_natCast, List.length_eq_zero_iff]
  exact limbs_eq_nil
structure GS where
  (n0 n1 : Nat) (x0 y0 x1 y1 : Int) (q0 q1 q2 q3 q4 q5 : Raw)
structure GSok (a b : Nat) (whole : Bool) (p : GS) : Prop where
  h0 : p.q0 = rawOf (p.n0 : Int)
  h1 : p.q1 = rawOf p.x0
  h2 : p.q2 = rawOf p.y0
  h3 : p.q3 = rawOf (p.n1 : Int)
  h4 : p.q4 = rawOf p.x1
  h5 : p.q5 = rawOf p.y1
  g : GRow a b whole p.n0 p.n1 p.x0 p.y0 p.x1 p.y1
  e : euc whole p.n0 p.n1 p.x0 p.y0 p.x1 p.y1 = eucR whole a b
/-- A row of three numbers. -/
abbrev cell6 (x y z : Raw) : List AC := [.b x.1, .st (magP x.2), .b y.1, .st (magP y.2), .b z.1, .st (magP z.2)]
set_option maxHeartbeats 1000000 in
set_option maxRecDepth 100000 in
theorem ct_run (a b : Int) (whole : Bool) (ha : lc a.natAbs ≤ 90) (hb : lc b.natAbs ≤ 90) :
    Ct Tryz.prog 63 [aZ a, aZ b, .val (aB whole)] (.val (.agg (cell6 (rawOf ((eucR whole a.natAbs b.natAbs).1 : Int)) (rawOf (eucR whole a.natAbs b.natAbs).2.1) (rawOf (eucR whole a.natAbs b.natAbs).2.2)))) := by
  have hla : lc a.natAbs ≤ 1099511627776 := by omega
  have hlb : lc b.natAbs ≤ 1099511627776 := by omega
  refine ct_of_wp [.cell 6 77] [(0, aZ a), (1, aZ b), (2, .val (aB whole))] 82 Tryz.func63 rfl rfl rfl rfl rfl rfl rfl rfl ?_
  intro G0 w0
  repeat first
    | refine Wp_seq ?_
    | refine Wp_region tm_mixed ?_
    | refine AW_move rfl rfl ?_
    | refine AW_assign rfl rfl ?_
    | refine AW_load rfl ty_num rfl rfl rfl rfl ?_
    | refine AW_load rfl ty_row rfl rfl rfl rfl ?_
    | refine AW_load rfl ty_rows rfl rfl rfl rfl ?_
    | refine AW_store ty_num rfl rfl rfl rfl rfl rfl rfl ?_
    | refine AW_store ty_row rfl rfl rfl rfl rfl rfl rfl ?_
    | refine AW_store ty_rows rfl rfl rfl rfl rfl rfl rfl ?_
    | refine AW_extract rfl rfl rfl ?_
    | refine AW_alloc rfl tz_num ?_
    | refine AW_alloc rfl tz_row ?_
    | refine AW_alloc rfl tz_rows ?_
    | refine AW_box rfl rfl (row := true) rfl (fun h => by cases h) rfl ?_
    | refine AW_not rfl rfl ?_
    | refine AW_build rfl tb_num rfl ?_
    | refine AW_build rfl tb_row rfl ?_
    | refine AW_build rfl tb_rows rfl ?_
    | refine AW_call rfl rfl (by first | exact ct_gsize _ (by assumption) | exact ct_limbOf 1 (by decide) (by decide) | exact ct_gzero _ | exact ct_Mul0 _ _ (by omega) (by omega) (by omega) | exact ct_Sub0 _ _ (by omega) (by assumption) (by assumption) | exact ct_TruncN _ _ (by assumption) (by assumption) (by assumption)) ?_
    | refine AW_ints rfl tu_nums ti_num ti_size ti_zero rfl rfl rfl (by first | exact .cons _ _ _ _ _ rfl (.cons _ _ _ _ _ rfl (.nil _)) | exact .cons _ _ _ _ _ rfl (.cons _ _ _ _ _ rfl (.cons _ _ _ _ _ rfl (.cons _ _ _ _ _ rfl (.nil _)))) | exact .cons _ _ _ _ _ rfl (.cons _ _ _ _ _ rfl (.cons _ _ _ _ _ rfl (.nil _))) | exact .cons _ _ _ _ _ rfl (.cons _ _ _ _ _ rfl (.cons _ _ _ _ _ rfl (.cons _ _ _ _ _ rfl (.cons _ _ _ _ _ rfl (.nil _)))))) ?_
    | refine AW_fieldAddr rfl tf_row0 rfl rfl ?_ | refine AW_fieldAddr rfl tf_row1 rfl rfl ?_ | refine AW_arrayAt rfl Tryz.underlying116 ts_row rfl rfl rfl rfl ?_ | refine AW_arrayAt rfl Tryz.underlying75 ts_num rfl rfl rfl rfl ?_
    | refine AW_pickT rfl rfl rfl ?_
    | refine AW_pickF rfl rfl rfl ?_
    | refine AW_skip rfl rfl rfl rfl ?_
    | refine AW_pickTg rfl rfl rfl rfl rfl rfl ?_
    | refine AW_pickFg rfl rfl rfl rfl rfl rfl ?_
    | refine AW_moveg rfl rfl rfl rfl rfl ?_
    | refine AW_notg rfl rfl rfl rfl rfl ?_
    | refine AW_eqg rfl rfl rfl rfl rfl rfl ?_
    | refine AW_eq rfl rfl rfl ?_
    | refine AW_loadg rfl rfl rfl rfl ty_num rfl rfl rfl rfl ?_
    | refine AW_loadg rfl rfl rfl rfl ty_row rfl rfl rfl rfl ?_
    | refine AW_loadg rfl rfl rfl rfl ty_rows rfl rfl rfl rfl ?_
    | refine AW_callg rfl rfl rfl rfl rfl (by first | exact ct_gsize _ (by assumption) | exact ct_limbOf 1 (by decide) (by decide) | exact ct_gzero _ | exact ct_Mul0 _ _ (by omega) (by omega) (by omega) | exact ct_Sub0 _ _ (by omega) (by assumption) (by assumption) | exact ct_TruncN _ _ (by assumption) (by assumption) (by assumption)) ?_
    | refine AW_nil (fun (h : false = true) => by cases h) ?_
    | refine AW_nil (fun (_ : true = true) => by kernel_rfl) ?_
    | refine Wp_block ?_
    | refine Wp_skip ?_
    | refine Wp_exit ?_
    | refine Wp_ret ?_
  refine Wp_loop (fun p : GS => ⟨[(7, .val (.one (.ptr 3 0))), (6, .val (.one (.ptr 2 0))), (2, .val (aB whole))],
    [(3, 116, [.b p.q0.1, .st (magP p.q0.2), .b p.q1.1, .st (magP p.q1.2), .b p.q2.1, .st (magP p.q2.2), .b p.q3.1, .st (magP p.q3.2), .b p.q4.1, .st (magP p.q4.2), .b p.q5.1, .st (magP p.q5.2)]),
     (2, 77, [.b false, .st (magP []), .b false, .st (magP []), .b false, .st (magP [])])], 4⟩)
    (GSok a.natAbs b.natAbs whole) (fun p => p.n1) ⟨a.natAbs, b.natAbs, 1, 0, 0, 1, rawOf (a.natAbs : Int), rawOf 1, (false, []), rawOf (b.natAbs : Int), (false, []), rawOf 1⟩
    ⟨rfl, rfl, rawOf_zero.symm, rfl, rawOf_zero.symm, rfl, GRow.start _ _ _, rfl⟩ (le_of ⟨rfl, rfl, rfl, trivial⟩ ⟨rfl, rfl, trivial⟩ rfl) ?_
  rintro ⟨n0, n1, x0, y0, x1, y1, q0, q1, q2, q3, q4, q5⟩ ⟨h0, h1, h2, h3, h4, h5, hg, he⟩
  dsimp only at h0 h1 h2 h3 h4 h5 hg he
  subst h0 h1 h2 h3 h4 h5
  obtain ⟨s0, s1, s2, s3, s4, s5⟩ := hg.small ha hb
  dsimp only
  repeat first
    | refine Wp_seq ?_
    | refine Wp_region tm_mixed ?_
    | refine AW_move rfl rfl ?_
    | refine AW_assign rfl rfl ?_
    | refine AW_load rfl ty_num rfl rfl rfl rfl ?_
    | refine AW_load rfl ty_row rfl rfl rfl rfl ?_
    | refine AW_load rfl ty_rows rfl rfl rfl rfl ?_
    | refine AW_store ty_num rfl rfl rfl rfl rfl rfl rfl ?_
    | refine AW_store ty_row rfl rfl rfl rfl rfl rfl rfl ?_
    | refine AW_store ty_rows rfl rfl rfl rfl rfl rfl rfl ?_
    | refine AW_extract rfl rfl rfl ?_
    | refine AW_alloc rfl tz_num ?_
    | refine AW_alloc rfl tz_row ?_
    | refine AW_alloc rfl tz_rows ?_
    | refine AW_box rfl rfl (row := true) rfl (fun h => by cases h) rfl ?_
    | refine AW_not rfl rfl ?_
    | refine AW_build rfl tb_num rfl ?_
    | refine AW_build rfl tb_row rfl ?_
    | refine AW_build rfl tb_rows rfl ?_
    | refine AW_call rfl rfl (by first | exact ct_gsize _ (by assumption) | exact ct_limbOf 1 (by decide) (by decide) | exact ct_gzero _ | exact ct_Mul0 _ _ (by omega) (by omega) (by omega) | exact ct_Sub0 _ _ (by omega) (by assumption) (by assumption) | exact ct_TruncN _ _ (by assumption) (by assumption) (by assumption)) ?_
    | refine AW_ints rfl tu_nums ti_num ti_size ti_zero rfl rfl rfl (by first | exact .cons _ _ _ _ _ rfl (.cons _ _ _ _ _ rfl (.nil _)) | exact .cons _ _ _ _ _ rfl (.cons _ _ _ _ _ rfl (.cons _ _ _ _ _ rfl (.cons _ _ _ _ _ rfl (.nil _)))) | exact .cons _ _ _ _ _ rfl (.cons _ _ _ _ _ rfl (.cons _ _ _ _ _ rfl (.nil _))) | exact .cons _ _ _ _ _ rfl (.cons _ _ _ _ _ rfl (.cons _ _ _ _ _ rfl (.cons _ _ _ _ _ rfl (.cons _ _ _ _ _ rfl (.nil _)))))) ?_
    | refine AW_fieldAddr rfl tf_row0 rfl rfl ?_ | refine AW_fieldAddr rfl tf_row1 rfl rfl ?_ | refine AW_arrayAt rfl Tryz.underlying116 ts_row rfl rfl rfl rfl ?_ | refine AW_arrayAt rfl Tryz.underlying75 ts_num rfl rfl rfl rfl ?_
    | refine AW_pickT rfl rfl rfl ?_
    | refine AW_pickF rfl rfl rfl ?_
    | refine AW_skip rfl rfl rfl rfl ?_
    | refine AW_pickTg rfl rfl rfl rfl rfl rfl ?_
    | refine AW_pickFg rfl rfl rfl rfl rfl rfl ?_
    | refine AW_moveg rfl rfl rfl rfl rfl ?_
    | refine AW_notg rfl rfl rfl rfl rfl ?_
    | refine AW_eqg rfl rfl rfl rfl rfl rfl ?_
    | refine AW_eq rfl rfl rfl ?_
    | refine AW_loadg rfl rfl rfl rfl ty_num rfl rfl rfl rfl ?_
    | refine AW_loadg rfl rfl rfl rfl ty_row rfl rfl rfl rfl ?_
    | refine AW_loadg rfl rfl rfl rfl ty_rows rfl rfl rfl rfl ?_
    | refine AW_callg rfl rfl rfl rfl rfl (by first | exact ct_gsize _ (by assumption) | exact ct_limbOf 1 (by decide) (by decide) | exact ct_gzero _ | exact ct_Mul0 _ _ (by omega) (by omega) (by omega) | exact ct_Sub0 _ _ (by omega) (by assumption) (by assumption) | exact ct_TruncN _ _ (by assumption) (by assumption) (by assumption)) ?_
    | refine AW_nil (fun (h : false = true) => by cases h) ?_
    | refine AW_nil (fun (_ : true = true) => by kernel_rfl) ?_
    | refine Wp_block ?_
    | refine Wp_skip ?_
    | refine Wp_exit ?_
    | refine Wp_ret ?_
  refine Wp_cond rfl (fun hc => ?_) (fun hc => ?_)
  · have hn : n1 ≠ 0 := fun e => by rw [decide_eq_true (rawOf_len.2 e)] at hc; cases hc
    repeat first
      | refine Wp_seq ?_
      | refine Wp_region tm_mixed ?_
      | refine AW_move rfl rfl ?_
      | refine AW_assign rfl rfl ?_
      | refine AW_load rfl ty_num rfl rfl rfl rfl ?_
      | refine AW_load rfl ty_row rfl rfl rfl rfl ?_
      | refine AW_load rfl ty_rows rfl rfl rfl rfl ?_
      | refine AW_store ty_num rfl rfl rfl rfl rfl rfl rfl ?_
      | refine AW_store ty_row rfl rfl rfl rfl rfl rfl rfl ?_
      | refine AW_store ty_rows rfl rfl rfl rfl rfl rfl rfl ?_
      | refine AW_extract rfl rfl rfl ?_
      | refine AW_alloc rfl tz_num ?_
      | refine AW_alloc rfl tz_row ?_
      | refine AW_alloc rfl tz_rows ?_
      | refine AW_box rfl rfl (row := true) rfl (fun h => by cases h) rfl ?_
      | refine AW_not rfl rfl ?_
      | refine AW_build rfl tb_num rfl ?_
      | refine AW_build rfl tb_row rfl ?_
      | refine AW_build rfl tb_rows rfl ?_
      | refine AW_call rfl rfl (by first | exact ct_gsize _ (by assumption) | exact ct_limbOf 1 (by decide) (by decide) | exact ct_gzero _ | exact ct_Mul0 _ _ (by omega) (by omega) (by omega) | exact ct_Sub0 _ _ (by omega) (by assumption) (by assumption) | exact ct_TruncN _ _ (by assumption) (by assumption) (by assumption)) ?_
      | refine AW_ints rfl tu_nums ti_num ti_size ti_zero rfl rfl rfl (by first | exact .cons _ _ _ _ _ rfl (.cons _ _ _ _ _ rfl (.nil _)) | exact .cons _ _ _ _ _ rfl (.cons _ _ _ _ _ rfl (.cons _ _ _ _ _ rfl (.cons _ _ _ _ _ rfl (.nil _)))) | exact .cons _ _ _ _ _ rfl (.cons _ _ _ _ _ rfl (.cons _ _ _ _ _ rfl (.nil _))) | exact .cons _ _ _ _ _ rfl (.cons _ _ _ _ _ rfl (.cons _ _ _ _ _ rfl (.cons _ _ _ _ _ rfl (.cons _ _ _ _ _ rfl (.nil _)))))) ?_
      | refine AW_fieldAddr rfl tf_row0 rfl rfl ?_ | refine AW_fieldAddr rfl tf_row1 rfl rfl ?_ | refine AW_arrayAt rfl Tryz.underlying116 ts_row rfl rfl rfl rfl ?_ | refine AW_arrayAt rfl Tryz.underlying75 ts_num rfl rfl rfl rfl ?_
      | refine AW_pickT rfl rfl rfl ?_
      | refine AW_pickF rfl rfl rfl ?_
      | refine AW_skip rfl rfl rfl rfl ?_
      | refine AW_pickTg rfl rfl rfl rfl rfl rfl ?_
      | refine AW_pickFg rfl rfl rfl rfl rfl rfl ?_
      | refine AW_moveg rfl rfl rfl rfl rfl ?_
      | refine AW_notg rfl rfl rfl rfl rfl ?_
      | refine AW_eqg rfl rfl rfl rfl rfl rfl ?_
      | refine AW_eq rfl rfl rfl ?_
      | refine AW_loadg rfl rfl rfl rfl ty_num rfl rfl rfl rfl ?_
      | refine AW_loadg rfl rfl rfl rfl ty_row rfl rfl rfl rfl ?_
      | refine AW_loadg rfl rfl rfl rfl ty_rows rfl rfl rfl rfl ?_
      | refine AW_callg rfl rfl rfl rfl rfl (by first | exact ct_gsize _ (by assumption) | exact ct_limbOf 1 (by decide) (by decide) | exact ct_gzero _ | exact ct_Mul0 _ _ (by omega) (by omega) (by omega) | exact ct_Sub0 _ _ (by omega) (by assumption) (by assumption) | exact ct_TruncN _ _ (by assumption) (by assumption) (by assumption)) ?_
      | refine AW_nil (fun (h : false = true) => by cases h) ?_
      | refine AW_nil (fun (_ : true = true) => by kernel_rfl) ?_
      | refine Wp_block ?_
      | refine Wp_skip ?_
      | refine Wp_exit ?_
      | refine Wp_ret ?_
    obtain ⟨nx, hnx⟩ : ∃ nx : Int, (if whole = true then x0 - ((n0 / n1 : Nat) : Int) * x1 else 0) = nx := ⟨_, rfl⟩
    obtain ⟨ny, hny⟩ : ∃ ny : Int, (if whole = true then y0 - ((n0 / n1 : Nat) : Int) * y1 else 0) = ny := ⟨_, rfl⟩
    have hg2 := hg.step hn
    rw [euc_step _ _ _ _ _ _ _ hn] at he
    rw [hnx, hny] at hg2 he
    have sq : lc ((n0 / n1 : Nat) : Int).natAbs ≤ 90 := by rw [Int.natAbs_natCast]; exact Nat.le_trans (lc_mono (Nat.div_le_self _ _)) s0
    obtain ⟨-, -, -, -, t4, t5⟩ := hg2.small ha hb
    have k1 : lc (((n0 / n1 : Nat) : Int) * x1).natAbs ≤ 4096 := by rw [Int.natAbs_mul]; have := lc_mul ((n0 / n1 : Nat) : Int).natAbs x1.natAbs; omega
    have k3 : lc (((n0 / n1 : Nat) : Int) * y1).natAbs ≤ 4096 := by rw [Int.natAbs_mul]; have := lc_mul ((n0 / n1 : Nat) : Int).natAbs y1.natAbs; omega
    refine Wp_loop (fun p : Nat × Raw × Raw => ⟨[(48, .val (aI (p.1 : Int))), (11, .val (.one (.ptr 6 0))), (9, .val (.one (.ptr 5 0))), (8, .val (.one (.ptr 4 0))), (7, .val (.one (.ptr 3 0))), (6, .val (.one (.ptr 2 0))), (2, .val (aB whole))],
      [(6, 77, [.b (rawOf ((n0 % n1 : Nat) : Int)).1, .st (magP (rawOf ((n0 % n1 : Nat) : Int)).2), .b p.2.1.1, .st (magP p.2.1.2), .b p.2.2.1, .st (magP p.2.2.2)]),
       (4, 24, [.b (rawOf ((n0 / n1 : Nat) : Int)).1, .st (magP (rawOf ((n0 / n1 : Nat) : Int)).2)]),
       (3, 116, [.b (rawOf (n0 : Int)).1, .st (magP (rawOf (n0 : Int)).2), .b (rawOf x0).1, .st (magP (rawOf x0).2), .b (rawOf y0).1, .st (magP (rawOf y0).2), .b (rawOf (n1 : Int)).1, .st (magP (rawOf (n1 : Int)).2), .b (rawOf x1).1, .st (magP (rawOf x1).2), .b (rawOf y1).1, .st (magP (rawOf y1).2)]),
       (2, 77, [.b false, .st (magP []), .b false, .st (magP []), .b false, .st (magP [])])], 7⟩)
      (fun p => p.1 ≤ 2 ∧ (1 ≤ p.1 → p.2.1 = rawOf nx) ∧ (2 ≤ p.1 → p.2.2 = rawOf ny) ∧ (p.1 = 0 → p.2.1 = (false, [])) ∧ (p.1 ≤ 1 → p.2.2 = (false, []))) (fun p => 2 - p.1) (0, (false, []), (false, []))
      ⟨by omega, by omega, by omega, fun _ => rfl, fun _ => rfl⟩ (le_of ⟨rfl, rfl, rfl, rfl, rfl, rfl, rfl, trivial⟩ ⟨rfl, rfl, rfl, rfl, trivial⟩ rfl) ?_
    rintro ⟨k, u, v⟩ ⟨hk, hu1, hv2, hu0, hv1⟩
    dsimp only at hk hu1 hv2 hu0 hv1 ⊢
    obtain rfl | rfl | rfl : k = 0 ∨ k = 1 ∨ k = 2 := by omega
    · obtain rfl := hu0 rfl
      obtain rfl := hv1 (by omega)
      have hx : nx = if whole = true then x0 - ((n0 / n1 : Nat) : Int) * x1 else 0 := hnx.symm
      repeat first
        | refine Wp_seq ?_
        | refine Wp_region tm_mixed ?_
        | refine AW_move rfl rfl ?_
        | refine AW_assign rfl rfl ?_
        | refine AW_load rfl ty_num rfl rfl rfl rfl ?_
        | refine AW_load rfl ty_row rfl rfl rfl rfl ?_
        | refine AW_load rfl ty_rows rfl rfl rfl rfl ?_
        | refine AW_store ty_num rfl rfl rfl rfl rfl rfl rfl ?_
        | refine AW_store ty_row rfl rfl rfl rfl rfl rfl rfl ?_
        | refine AW_store ty_rows rfl rfl rfl rfl rfl rfl rfl ?_
        | refine AW_extract rfl rfl rfl ?_
        | refine AW_alloc rfl tz_num ?_
        | refine AW_alloc rfl tz_row ?_
        | refine AW_alloc rfl tz_rows ?_
        | refine AW_box rfl rfl (row := true) rfl (fun h => by cases h) rfl ?_
        | refine AW_not rfl rfl ?_
        | refine AW_build rfl tb_num rfl ?_
        | refine AW_build rfl tb_row rfl ?_
        | refine AW_build rfl tb_rows rfl ?_
        | refine AW_call rfl rfl (by first | exact ct_gsize _ (by assumption) | exact ct_limbOf 1 (by decide) (by decide) | exact ct_gzero _ | exact ct_Mul0 _ _ (by omega) (by omega) (by omega) | exact ct_Sub0 _ _ (by omega) (by assumption) (by assumption) | exact ct_TruncN _ _ (by assumption) (by assumption) (by assumption)) ?_
        | refine AW_ints rfl tu_nums ti_num ti_size ti_zero rfl rfl rfl (by first | exact .cons _ _ _ _ _ rfl (.cons _ _ _ _ _ rfl (.nil _)) | exact .cons _ _ _ _ _ rfl (.cons _ _ _ _ _ rfl (.cons _ _ _ _ _ rfl (.cons _ _ _ _ _ rfl (.nil _)))) | exact .cons _ _ _ _ _ rfl (.cons _ _ _ _ _ rfl (.cons _ _ _ _ _ rfl (.nil _))) | exact .cons _ _ _ _ _ rfl (.cons _ _ _ _ _ rfl (.cons _ _ _ _ _ rfl (.cons _ _ _ _ _ rfl (.cons _ _ _ _ _ rfl (.nil _)))))) ?_
        | refine AW_fieldAddr rfl tf_row0 rfl rfl ?_ | refine AW_fieldAddr rfl tf_row1 rfl rfl ?_ | refine AW_arrayAt rfl Tryz.underlying116 ts_row rfl rfl rfl rfl ?_ | refine AW_arrayAt rfl Tryz.underlying75 ts_num rfl rfl rfl rfl ?_
        | refine AW_pickT rfl rfl rfl ?_
        | refine AW_pickF rfl rfl rfl ?_
        | refine AW_skip rfl rfl rfl rfl ?_
        | refine AW_pickTg rfl rfl rfl rfl rfl rfl ?_
        | refine AW_pickFg rfl rfl rfl rfl rfl rfl ?_
        | refine AW_moveg rfl rfl rfl rfl rfl ?_
        | refine AW_notg rfl rfl rfl rfl rfl ?_
        | refine AW_eqg rfl rfl rfl rfl rfl rfl ?_
        | refine AW_eq rfl rfl rfl ?_
        | refine AW_loadg rfl rfl rfl rfl ty_num rfl rfl rfl rfl ?_
        | refine AW_loadg rfl rfl rfl rfl ty_row rfl rfl rfl rfl ?_
        | refine AW_loadg rfl rfl rfl rfl ty_rows rfl rfl rfl rfl ?_
        | refine AW_callg rfl rfl rfl rfl rfl (by first | exact ct_gsize _ (by assumption) | exact ct_limbOf 1 (by decide) (by decide) | exact ct_gzero _ | exact ct_Mul0 _ _ (by omega) (by omega) (by omega) | exact ct_Sub0 _ _ (by omega) (by assumption) (by assumption) | exact ct_TruncN _ _ (by assumption) (by assumption) (by assumption)) ?_
        | refine AW_nil (fun (h : false = true) => by cases h) ?_
        | refine AW_nil (fun (_ : true = true) => by kernel_rfl) ?_
        | refine Wp_block ?_
        | refine Wp_skip ?_
        | refine Wp_exit ?_
        | refine Wp_ret ?_
      refine AW_quiet rfl (q_lt rfl rfl) ?_
      repeat first
        | refine Wp_seq ?_
        | refine Wp_region tm_mixed ?_
        | refine AW_move rfl rfl ?_
        | refine AW_assign rfl rfl ?_
        | refine AW_load rfl ty_num rfl rfl rfl rfl ?_
        | refine AW_load rfl ty_row rfl rfl rfl rfl ?_
        | refine AW_load rfl ty_rows rfl rfl rfl rfl ?_
        | refine AW_store ty_num rfl rfl rfl rfl rfl rfl rfl ?_
        | refine AW_store ty_row rfl rfl rfl rfl rfl rfl rfl ?_
        | refine AW_store ty_rows rfl rfl rfl rfl rfl rfl rfl ?_
        | refine AW_extract rfl rfl rfl ?_
        | refine AW_alloc rfl tz_num ?_
        | refine AW_alloc rfl tz_row ?_
        | refine AW_alloc rfl tz_rows ?_
        | refine AW_box rfl rfl (row := true) rfl (fun h => by cases h) rfl ?_
        | refine AW_not rfl rfl ?_
        | refine AW_build rfl tb_num rfl ?_
        | refine AW_build rfl tb_row rfl ?_
        | refine AW_build rfl tb_rows rfl ?_
        | refine AW_call rfl rfl (by first | exact ct_gsize _ (by assumption) | exact ct_limbOf 1 (by decide) (by decide) | exact ct_gzero _ | exact ct_Mul0 _ _ (by omega) (by omega) (by omega) | exact ct_Sub0 _ _ (by omega) (by assumption) (by assumption) | exact ct_TruncN _ _ (by assumption) (by assumption) (by assumption)) ?_
        | refine AW_ints rfl tu_nums ti_num ti_size ti_zero rfl rfl rfl (by first | exact .cons _ _ _ _ _ rfl (.cons _ _ _ _ _ rfl (.nil _)) | exact .cons _ _ _ _ _ rfl (.cons _ _ _ _ _ rfl (.cons _ _ _ _ _ rfl (.cons _ _ _ _ _ rfl (.nil _)))) | exact .cons _ _ _ _ _ rfl (.cons _ _ _ _ _ rfl (.cons _ _ _ _ _ rfl (.nil _))) | exact .cons _ _ _ _ _ rfl (.cons _ _ _ _ _ rfl (.cons _ _ _ _ _ rfl (.cons _ _ _ _ _ rfl (.cons _ _ _ _ _ rfl (.nil _)))))) ?_
        | refine AW_fieldAddr rfl tf_row0 rfl rfl ?_ | refine AW_fieldAddr rfl tf_row1 rfl rfl ?_ | refine AW_arrayAt rfl Tryz.underlying116 ts_row rfl rfl rfl rfl ?_ | refine AW_arrayAt rfl Tryz.underlying75 ts_num rfl rfl rfl rfl ?_
        | refine AW_pickT rfl rfl rfl ?_
        | refine AW_pickF rfl rfl rfl ?_
        | refine AW_skip rfl rfl rfl rfl ?_
        | refine AW_pickTg rfl rfl rfl rfl rfl rfl ?_
        | refine AW_pickFg rfl rfl rfl rfl rfl rfl ?_
        | refine AW_moveg rfl rfl rfl rfl rfl ?_
        | refine AW_notg rfl rfl rfl rfl rfl ?_
        | refine AW_eqg rfl rfl rfl rfl rfl rfl ?_
        | refine AW_eq rfl rfl rfl ?_
        | refine AW_loadg rfl rfl rfl rfl ty_num rfl rfl rfl rfl ?_
        | refine AW_loadg rfl rfl rfl rfl ty_row rfl rfl rfl rfl ?_
        | refine AW_loadg rfl rfl rfl rfl ty_rows rfl rfl rfl rfl ?_
        | refine AW_callg rfl rfl rfl rfl rfl (by first | exact ct_gsize _ (by assumption) | exact ct_limbOf 1 (by decide) (by decide) | exact ct_gzero _ | exact ct_Mul0 _ _ (by omega) (by omega) (by omega) | exact ct_Sub0 _ _ (by omega) (by assumption) (by assumption) | exact ct_TruncN _ _ (by assumption) (by assumption) (by assumption)) ?_
        | refine AW_nil (fun (h : false = true) => by cases h) ?_
        | refine AW_nil (fun (_ : true = true) => by kernel_rfl) ?_
        | refine Wp_block ?_
        | refine Wp_skip ?_
        | refine Wp_exit ?_
        | refine Wp_ret ?_
      refine Wp_condT rfl ?_
      repeat first
        | refine Wp_seq ?_
        | refine Wp_region tm_mixed ?_
        | refine AW_move rfl rfl ?_
        | refine AW_assign rfl rfl ?_
        | refine AW_load rfl ty_num rfl rfl rfl rfl ?_
        | refine AW_load rfl ty_row rfl rfl rfl rfl ?_
        | refine AW_load rfl ty_rows rfl rfl rfl rfl ?_
        | refine AW_store ty_num rfl rfl rfl rfl rfl rfl rfl ?_
        | refine AW_store ty_row rfl rfl rfl rfl rfl rfl rfl ?_
        | refine AW_store ty_rows rfl rfl rfl rfl rfl rfl rfl ?_
        | refine AW_extract rfl rfl rfl ?_
        | refine AW_alloc rfl tz_num ?_
        | refine AW_alloc rfl tz_row ?_
        | refine AW_alloc rfl tz_rows ?_
        | refine AW_box rfl rfl (row := true) rfl (fun h => by cases h) rfl ?_
        | refine AW_not rfl rfl ?_
        | refine AW_build rfl tb_num rfl ?_
        | refine AW_build rfl tb_row rfl ?_
        | refine AW_build rfl tb_rows rfl ?_
        | refine AW_call rfl rfl (by first | exact ct_gsize _ (by assumption) | exact ct_limbOf 1 (by decide) (by decide) | exact ct_gzero _ | exact ct_Mul0 _ _ (by omega) (by omega) (by omega) | exact ct_Sub0 _ _ (by omega) (by assumption) (by assumption) | exact ct_TruncN _ _ (by assumption) (by assumption) (by assumption)) ?_
        | refine AW_ints rfl tu_nums ti_num ti_size ti_zero rfl rfl rfl (by first | exact .cons _ _ _ _ _ rfl (.cons _ _ _ _ _ rfl (.nil _)) | exact .cons _ _ _ _ _ rfl (.cons _ _ _ _ _ rfl (.cons _ _ _ _ _ rfl (.cons _ _ _ _ _ rfl (.nil _)))) | exact .cons _ _ _ _ _ rfl (.cons _ _ _ _ _ rfl (.cons _ _ _ _ _ rfl (.nil _))) | exact .cons _ _ _ _ _ rfl (.cons _ _ _ _ _ rfl (.cons _ _ _ _ _ rfl (.cons _ _ _ _ _ rfl (.cons _ _ _ _ _ rfl (.nil _)))))) ?_
        | refine AW_fieldAddr rfl tf_row0 rfl rfl ?_ | refine AW_fieldAddr rfl tf_row1 rfl rfl ?_ | refine AW_arrayAt rfl Tryz.underlying116 ts_row rfl rfl rfl rfl ?_ | refine AW_arrayAt rfl Tryz.underlying75 ts_num rfl rfl rfl rfl ?_
        | refine AW_pickT rfl rfl rfl ?_
        | refine AW_pickF rfl rfl rfl ?_
        | refine AW_skip rfl rfl rfl rfl ?_
        | refine AW_pickTg rfl rfl rfl rfl rfl rfl ?_
        | refine AW_pickFg rfl rfl rfl rfl rfl rfl ?_
        | refine AW_moveg rfl rfl rfl rfl rfl ?_
        | refine AW_notg rfl rfl rfl rfl rfl ?_
        | refine AW_eqg rfl rfl rfl rfl rfl rfl ?_
        | refine AW_eq rfl rfl rfl ?_
        | refine AW_loadg rfl rfl rfl rfl ty_num rfl rfl rfl rfl ?_
        | refine AW_loadg rfl rfl rfl rfl ty_row rfl rfl rfl rfl ?_
        | refine AW_loadg rfl rfl rfl rfl ty_rows rfl rfl rfl rfl ?_
        | refine AW_callg rfl rfl rfl rfl rfl (by first | exact ct_gsize _ (by assumption) | exact ct_limbOf 1 (by decide) (by decide) | exact ct_gzero _ | exact ct_Mul0 _ _ (by omega) (by omega) (by omega) | exact ct_Sub0 _ _ (by omega) (by assumption) (by assumption) | exact ct_TruncN _ _ (by assumption) (by assumption) (by assumption)) ?_
        | refine AW_nil (fun (h : false = true) => by cases h) ?_
        | refine AW_nil (fun (_ : true = true) => by kernel_rfl) ?_
        | refine Wp_block ?_
        | refine Wp_skip ?_
        | refine Wp_exit ?_
        | refine Wp_ret ?_
      refine Wp_cond rfl (fun hw => ?_) (fun hw => ?_)
      · subst hw
        rw [if_pos rfl] at hx
        have k2 : lc (x0 - ((n0 / n1 : Nat) : Int) * x1).natAbs ≤ 4096 := by rw [← hx]; exact Nat.le_trans t4 (by decide)
        repeat first
          | refine Wp_seq ?_
          | refine Wp_region tm_mixed ?_
          | refine AW_move rfl rfl ?_
          | refine AW_assign rfl rfl ?_
          | refine AW_load rfl ty_num rfl rfl rfl rfl ?_
          | refine AW_load rfl ty_row rfl rfl rfl rfl ?_
          | refine AW_load rfl ty_rows rfl rfl rfl rfl ?_
          | refine AW_store ty_num rfl rfl rfl rfl rfl rfl rfl ?_
          | refine AW_store ty_row rfl rfl rfl rfl rfl rfl rfl ?_
          | refine AW_store ty_rows rfl rfl rfl rfl rfl rfl rfl ?_
          | refine AW_extract rfl rfl rfl ?_
          | refine AW_alloc rfl tz_num ?_
          | refine AW_alloc rfl tz_row ?_
          | refine AW_alloc rfl tz_rows ?_
          | refine AW_box rfl rfl (row := true) rfl (fun h => by cases h) rfl ?_
          | refine AW_not rfl rfl ?_
          | refine AW_build rfl tb_num rfl ?_
          | refine AW_build rfl tb_row rfl ?_
          | refine AW_build rfl tb_rows rfl ?_
          | refine AW_call rfl rfl (by first | exact ct_gsize _ (by assumption) | exact ct_limbOf 1 (by decide) (by decide) | exact ct_gzero _ | exact ct_Mul0 _ _ (by omega) (by omega) (by omega) | exact ct_Sub0 _ _ (by omega) (by assumption) (by assumption) | exact ct_TruncN _ _ (by assumption) (by assumption) (by assumption)) ?_
          | refine AW_ints rfl tu_nums ti_num ti_size ti_zero rfl rfl rfl (by first | exact .cons _ _ _ _ _ rfl (.cons _ _ _ _ _ rfl (.nil _)) | exact .cons _ _ _ _ _ rfl (.cons _ _ _ _ _ rfl (.cons _ _ _ _ _ rfl (.cons _ _ _ _ _ rfl (.nil _)))) | exact .cons _ _ _ _ _ rfl (.cons _ _ _ _ _ rfl (.cons _ _ _ _ _ rfl (.nil _))) | exact .cons _ _ _ _ _ rfl (.cons _ _ _ _ _ rfl (.cons _ _ _ _ _ rfl (.cons _ _ _ _ _ rfl (.cons _ _ _ _ _ rfl (.nil _)))))) ?_
          | refine AW_fieldAddr rfl tf_row0 rfl rfl ?_ | refine AW_fieldAddr rfl tf_row1 rfl rfl ?_ | refine AW_arrayAt rfl Tryz.underlying116 ts_row rfl rfl rfl rfl ?_ | refine AW_arrayAt rfl Tryz.underlying75 ts_num rfl rfl rfl rfl ?_
          | refine AW_pickT rfl rfl rfl ?_
          | refine AW_pickF rfl rfl rfl ?_
          | refine AW_skip rfl rfl rfl rfl ?_
          | refine AW_pickTg rfl rfl rfl rfl rfl rfl ?_
          | refine AW_pickFg rfl rfl rfl rfl rfl rfl ?_
          | refine AW_moveg rfl rfl rfl rfl rfl ?_
          | refine AW_notg rfl rfl rfl rfl rfl ?_
          | refine AW_eqg rfl rfl rfl rfl rfl rfl ?_
          | refine AW_eq rfl rfl rfl ?_
          | refine AW_loadg rfl rfl rfl rfl ty_num rfl rfl rfl rfl ?_
          | refine AW_loadg rfl rfl rfl rfl ty_row rfl rfl rfl rfl ?_
          | refine AW_loadg rfl rfl rfl rfl ty_rows rfl rfl rfl rfl ?_
          | refine AW_callg rfl rfl rfl rfl rfl (by first | exact ct_gsize _ (by assumption) | exact ct_limbOf 1 (by decide) (by decide) | exact ct_gzero _ | exact ct_Mul0 _ _ (by omega) (by omega) (by omega) | exact ct_Sub0 _ _ (by omega) (by assumption) (by assumption) | exact ct_TruncN _ _ (by assumption) (by assumption) (by assumption)) ?_
          | refine AW_nil (fun (h : false = true) => by cases h) ?_
          | refine AW_nil (fun (_ : true = true) => by kernel_rfl) ?_
          | refine Wp_block ?_
          | refine Wp_skip ?_
          | refine Wp_exit ?_
          | refine Wp_ret ?_
        refine AW_quiet rfl (q_add rfl rfl) ?_
        repeat first
          | refine Wp_seq ?_
          | refine Wp_region tm_mixed ?_
          | refine AW_move rfl rfl ?_
          | refine AW_assign rfl rfl ?_
          | refine AW_load rfl ty_num rfl rfl rfl rfl ?_
          | refine AW_load rfl ty_row rfl rfl rfl rfl ?_
          | refine AW_load rfl ty_rows rfl rfl rfl rfl ?_
          | refine AW_store ty_num rfl rfl rfl rfl rfl rfl rfl ?_
          | refine AW_store ty_row rfl rfl rfl rfl rfl rfl rfl ?_
          | refine AW_store ty_rows rfl rfl rfl rfl rfl rfl rfl ?_
          | refine AW_extract rfl rfl rfl ?_
          | refine AW_alloc rfl tz_num ?_
          | refine AW_alloc rfl tz_row ?_
          | refine AW_alloc rfl tz_rows ?_
          | refine AW_box rfl rfl (row := true) rfl (fun h => by cases h) rfl ?_
          | refine AW_not rfl rfl ?_
          | refine AW_build rfl tb_num rfl ?_
          | refine AW_build rfl tb_row rfl ?_
          | refine AW_build rfl tb_rows rfl ?_
          | refine AW_call rfl rfl (by first | exact ct_gsize _ (by assumption) | exact ct_limbOf 1 (by decide) (by decide) | exact ct_gzero _ | exact ct_Mul0 _ _ (by omega) (by omega) (by omega) | exact ct_Sub0 _ _ (by omega) (by assumption) (by assumption) | exact ct_TruncN _ _ (by assumption) (by assumption) (by assumption)) ?_
          | refine AW_ints rfl tu_nums ti_num ti_size ti_zero rfl rfl rfl (by first | exact .cons _ _ _ _ _ rfl (.cons _ _ _ _ _ rfl (.nil _)) | exact .cons _ _ _ _ _ rfl (.cons _ _ _ _ _ rfl (.cons _ _ _ _ _ rfl (.cons _ _ _ _ _ rfl (.nil _)))) | exact .cons _ _ _ _ _ rfl (.cons _ _ _ _ _ rfl (.cons _ _ _ _ _ rfl (.nil _))) | exact .cons _ _ _ _ _ rfl (.cons _ _ _ _ _ rfl (.cons _ _ _ _ _ rfl (.cons _ _ _ _ _ rfl (.cons _ _ _ _ _ rfl (.nil _)))))) ?_
          | refine AW_fieldAddr rfl tf_row0 rfl rfl ?_ | refine AW_fieldAddr rfl tf_row1 rfl rfl ?_ | refine AW_arrayAt rfl Tryz.underlying116 ts_row rfl rfl rfl rfl ?_ | refine AW_arrayAt rfl Tryz.underlying75 ts_num rfl rfl rfl rfl ?_
          | refine AW_pickT rfl rfl rfl ?_
          | refine AW_pickF rfl rfl rfl ?_
          | refine AW_skip rfl rfl rfl rfl ?_
          | refine AW_pickTg rfl rfl rfl rfl rfl rfl ?_
          | refine AW_pickFg rfl rfl rfl rfl rfl rfl ?_
          | refine AW_moveg rfl rfl rfl rfl rfl ?_
          | refine AW_notg rfl rfl rfl rfl rfl ?_
          | refine AW_eqg rfl rfl rfl rfl rfl rfl ?_
          | refine AW_eq rfl rfl rfl ?_
          | refine AW_loadg rfl rfl rfl rfl ty_num rfl rfl rfl rfl ?_
          | refine AW_loadg rfl rfl rfl rfl ty_row rfl rfl rfl rfl ?_
          | refine AW_loadg rfl rfl rfl rfl ty_rows rfl rfl rfl rfl ?_
          | refine AW_callg rfl rfl rfl rfl rfl (by first | exact ct_gsize _ (by assumption) | exact ct_limbOf 1 (by decide) (by decide) | exact ct_gzero _ | exact ct_Mul0 _ _ (by omega) (by omega) (by omega) | exact ct_Sub0 _ _ (by omega) (by assumption) (by assumption) | exact ct_TruncN _ _ (by assumption) (by assumption) (by assumption)) ?_
          | refine AW_nil (fun (h : false = true) => by cases h) ?_
          | refine AW_nil (fun (_ : true = true) => by kernel_rfl) ?_
          | refine Wp_block ?_
          | refine Wp_skip ?_
          | refine Wp_exit ?_
          | refine Wp_ret ?_
        exact ⟨(1, rawOf nx, (false, [])), ⟨by omega, fun _ => rfl, by omega, by omega, fun _ => rfl⟩, le_of ⟨rfl, rfl, rfl, rfl, rfl, rfl, rfl, trivial⟩ ⟨by rw [hx]; rfl, rfl, rfl, rfl, trivial⟩ rfl, by omega⟩
      · subst hw
        rw [if_neg (by decide)] at hx
        subst hx
        repeat first
          | refine Wp_seq ?_
          | refine Wp_region tm_mixed ?_
          | refine AW_move rfl rfl ?_
          | refine AW_assign rfl rfl ?_
          | refine AW_load rfl ty_num rfl rfl rfl rfl ?_
          | refine AW_load rfl ty_row rfl rfl rfl rfl ?_
          | refine AW_load rfl ty_rows rfl rfl rfl rfl ?_
          | refine AW_store ty_num rfl rfl rfl rfl rfl rfl rfl ?_
          | refine AW_store ty_row rfl rfl rfl rfl rfl rfl rfl ?_
          | refine AW_store ty_rows rfl rfl rfl rfl rfl rfl rfl ?_
          | refine AW_extract rfl rfl rfl ?_
          | refine AW_alloc rfl tz_num ?_
          | refine AW_alloc rfl tz_row ?_
          | refine AW_alloc rfl tz_rows ?_
          | refine AW_box rfl rfl (row := true) rfl (fun h => by cases h) rfl ?_
          | refine AW_not rfl rfl ?_
          | refine AW_build rfl tb_num rfl ?_
          | refine AW_build rfl tb_row rfl ?_
          | refine AW_build rfl tb_rows rfl ?_
          | refine AW_call rfl rfl (by first | exact ct_gsize _ (by assumption) | exact ct_limbOf 1 (by decide) (by decide) | exact ct_gzero _ | exact ct_Mul0 _ _ (by omega) (by omega) (by omega) | exact ct_Sub0 _ _ (by omega) (by assumption) (by assumption) | exact ct_TruncN _ _ (by assumption) (by assumption) (by assumption)) ?_
          | refine AW_ints rfl tu_nums ti_num ti_size ti_zero rfl rfl rfl (by first | exact .cons _ _ _ _ _ rfl (.cons _ _ _ _ _ rfl (.nil _)) | exact .cons _ _ _ _ _ rfl (.cons _ _ _ _ _ rfl (.cons _ _ _ _ _ rfl (.cons _ _ _ _ _ rfl (.nil _)))) | exact .cons _ _ _ _ _ rfl (.cons _ _ _ _ _ rfl (.cons _ _ _ _ _ rfl (.nil _))) | exact .cons _ _ _ _ _ rfl (.cons _ _ _ _ _ rfl (.cons _ _ _ _ _ rfl (.cons _ _ _ _ _ rfl (.cons _ _ _ _ _ rfl (.nil _)))))) ?_
          | refine AW_fieldAddr rfl tf_row0 rfl rfl ?_ | refine AW_fieldAddr rfl tf_row1 rfl rfl ?_ | refine AW_arrayAt rfl Tryz.underlying116 ts_row rfl rfl rfl rfl ?_ | refine AW_arrayAt rfl Tryz.underlying75 ts_num rfl rfl rfl rfl ?_
          | refine AW_pickT rfl rfl rfl ?_
          | refine AW_pickF rfl rfl rfl ?_
          | refine AW_skip rfl rfl rfl rfl ?_
          | refine AW_pickTg rfl rfl rfl rfl rfl rfl ?_
          | refine AW_pickFg rfl rfl rfl rfl rfl rfl ?_
          | refine AW_moveg rfl rfl rfl rfl rfl ?_
          | refine AW_notg rfl rfl rfl rfl rfl ?_
          | refine AW_eqg rfl rfl rfl rfl rfl rfl ?_
          | refine AW_eq rfl rfl rfl ?_
          | refine AW_loadg rfl rfl rfl rfl ty_num rfl rfl rfl rfl ?_
          | refine AW_loadg rfl rfl rfl rfl ty_row rfl rfl rfl rfl ?_
          | refine AW_loadg rfl rfl rfl rfl ty_rows rfl rfl rfl rfl ?_
          | refine AW_callg rfl rfl rfl rfl rfl (by first | exact ct_gsize _ (by assumption) | exact ct_limbOf 1 (by decide) (by decide) | exact ct_gzero _ | exact ct_Mul0 _ _ (by omega) (by omega) (by omega) | exact ct_Sub0 _ _ (by omega) (by assumption) (by assumption) | exact ct_TruncN _ _ (by assumption) (by assumption) (by assumption)) ?_
          | refine AW_nil (fun (h : false = true) => by cases h) ?_
          | refine AW_nil (fun (_ : true = true) => by kernel_rfl) ?_
          | refine Wp_block ?_
          | refine Wp_skip ?_
          | refine Wp_exit ?_
          | refine Wp_ret ?_
        refine AW_quiet rfl (q_add rfl rfl) ?_
        repeat first
          | refine Wp_seq ?_
          | refine Wp_region tm_mixed ?_
          | refine AW_move rfl rfl ?_
          | refine AW_assign rfl rfl ?_
          | refine AW_load rfl ty_num rfl rfl rfl rfl ?_
          | refine AW_load rfl ty_row rfl rfl rfl rfl ?_
          | refine AW_load rfl ty_rows rfl rfl rfl rfl ?_
          | refine AW_store ty_num rfl rfl rfl rfl rfl rfl rfl ?_
          | refine AW_store ty_row rfl rfl rfl rfl rfl rfl rfl ?_
          | refine AW_store ty_rows rfl rfl rfl rfl rfl rfl rfl ?_
          | refine AW_extract rfl rfl rfl ?_
          | refine AW_alloc rfl tz_num ?_
          | refine AW_alloc rfl tz_row ?_
          | refine AW_alloc rfl tz_rows ?_
          | refine AW_box rfl rfl (row := true) rfl (fun h => by cases h) rfl ?_
          | refine AW_not rfl rfl ?_
          | refine AW_build rfl tb_num rfl ?_
          | refine AW_build rfl tb_row rfl ?_
          | refine AW_build rfl tb_rows rfl ?_
          | refine AW_call rfl rfl (by first | exact ct_gsize _ (by assumption) | exact ct_limbOf 1 (by decide) (by decide) | exact ct_gzero _ | exact ct_Mul0 _ _ (by omega) (by omega) (by omega) | exact ct_Sub0 _ _ (by omega) (by assumption) (by assumption) | exact ct_TruncN _ _ (by assumption) (by assumption) (by assumption)) ?_
          | refine AW_ints rfl tu_nums ti_num ti_size ti_zero rfl rfl rfl (by first | exact .cons _ _ _ _ _ rfl (.cons _ _ _ _ _ rfl (.nil _)) | exact .cons _ _ _ _ _ rfl (.cons _ _ _ _ _ rfl (.cons _ _ _ _ _ rfl (.cons _ _ _ _ _ rfl (.nil _)))) | exact .cons _ _ _ _ _ rfl (.cons _ _ _ _ _ rfl (.cons _ _ _ _ _ rfl (.nil _))) | exact .cons _ _ _ _ _ rfl (.cons _ _ _ _ _ rfl (.cons _ _ _ _ _ rfl (.cons _ _ _ _ _ rfl (.cons _ _ _ _ _ rfl (.nil _)))))) ?_
          | refine AW_fieldAddr rfl tf_row0 rfl rfl ?_ | refine AW_fieldAddr rfl tf_row1 rfl rfl ?_ | refine AW_arrayAt rfl Tryz.underlying116 ts_row rfl rfl rfl rfl ?_ | refine AW_arrayAt rfl Tryz.underlying75 ts_num rfl rfl rfl rfl ?_
          | refine AW_pickT rfl rfl rfl ?_
          | refine AW_pickF rfl rfl rfl ?_
          | refine AW_skip rfl rfl rfl rfl ?_
          | refine AW_pickTg rfl rfl rfl rfl rfl rfl ?_
          | refine AW_pickFg rfl rfl rfl rfl rfl rfl ?_
          | refine AW_moveg rfl rfl rfl rfl rfl ?_
          | refine AW_notg rfl rfl rfl rfl rfl ?_
          | refine AW_eqg rfl rfl rfl rfl rfl rfl ?_
          | refine AW_eq rfl rfl rfl ?_
          | refine AW_loadg rfl rfl rfl rfl ty_num rfl rfl rfl rfl ?_
          | refine AW_loadg rfl rfl rfl rfl ty_row rfl rfl rfl rfl ?_
          | refine AW_loadg rfl rfl rfl rfl ty_rows rfl rfl rfl rfl ?_
          | refine AW_callg rfl rfl rfl rfl rfl (by first | exact ct_gsize _ (by assumption) | exact ct_limbOf 1 (by decide) (by decide) | exact ct_gzero _ | exact ct_Mul0 _ _ (by omega) (by omega) (by omega) | exact ct_Sub0 _ _ (by omega) (by assumption) (by assumption) | exact ct_TruncN _ _ (by assumption) (by assumption) (by assumption)) ?_
          | refine AW_nil (fun (h : false = true) => by cases h) ?_
          | refine AW_nil (fun (_ : true = true) => by kernel_rfl) ?_
          | refine Wp_block ?_
          | refine Wp_skip ?_
          | refine Wp_exit ?_
          | refine Wp_ret ?_
        exact ⟨(1, (false, []), (false, [])), ⟨by omega, fun _ => rawOf_zero.symm, by omega, by omega, fun _ => rfl⟩, le_of ⟨rfl, rfl, rfl, rfl, rfl, rfl, rfl, trivial⟩ ⟨rfl, rfl, rfl, rfl, trivial⟩ rfl, by omega⟩
    · obtain rfl := hu1 (by omega)
      obtain rfl := hv1 (by omega)
      have hx : ny = if whole = true then y0 - ((n0 / n1 : Nat) : Int) * y1 else 0 := hny.symm
      repeat first
        | refine Wp_seq ?_
        | refine Wp_region tm_mixed ?_
        | refine AW_move rfl rfl ?_
        | refine AW_assign rfl rfl ?_
        | refine AW_load rfl ty_num rfl rfl rfl rfl ?_
        | refine AW_load rfl ty_row rfl rfl rfl rfl ?_
        | refine AW_load rfl ty_rows rfl rfl rfl rfl ?_
        | refine AW_store ty_num rfl rfl rfl rfl rfl rfl rfl ?_
        | refine AW_store ty_row rfl rfl rfl rfl rfl rfl rfl ?_
        | refine AW_store ty_rows rfl rfl rfl rfl rfl rfl rfl ?_
        | refine AW_extract rfl rfl rfl ?_
        | refine AW_alloc rfl tz_num ?_
        | refine AW_alloc rfl tz_row ?_
        | refine AW_alloc rfl tz_rows ?_
        | refine AW_box rfl rfl (row := true) rfl (fun h => by cases h) rfl ?_
        | refine AW_not rfl rfl ?_
        | refine AW_build rfl tb_num rfl ?_
        | refine AW_build rfl tb_row rfl ?_
        | refine AW_build rfl tb_rows rfl ?_
        | refine AW_call rfl rfl (by first | exact ct_gsize _ (by assumption) | exact ct_limbOf 1 (by decide) (by decide) | exact ct_gzero _ | exact ct_Mul0 _ _ (by omega) (by omega) (by omega) | exact ct_Sub0 _ _ (by omega) (by assumption) (by assumption) | exact ct_TruncN _ _ (by assumption) (by assumption) (by assumption)) ?_
        | refine AW_ints rfl tu_nums ti_num ti_size ti_zero rfl rfl rfl (by first | exact .cons _ _ _ _ _ rfl (.cons _ _ _ _ _ rfl (.nil _)) | exact .cons _ _ _ _ _ rfl (.cons _ _ _ _ _ rfl (.cons _ _ _ _ _ rfl (.cons _ _ _ _ _ rfl (.nil _)))) | exact .cons _ _ _ _ _ rfl (.cons _ _ _ _ _ rfl (.cons _ _ _ _ _ rfl (.nil _))) | exact .cons _ _ _ _ _ rfl (.cons _ _ _ _ _ rfl (.cons _ _ _ _ _ rfl (.cons _ _ _ _ _ rfl (.cons _ _ _ _ _ rfl (.nil _)))))) ?_
        | refine AW_fieldAddr rfl tf_row0 rfl rfl ?_ | refine AW_fieldAddr rfl tf_row1 rfl rfl ?_ | refine AW_arrayAt rfl Tryz.underlying116 ts_row rfl rfl rfl rfl ?_ | refine AW_arrayAt rfl Tryz.underlying75 ts_num rfl rfl rfl rfl ?_
        | refine AW_pickT rfl rfl rfl ?_
        | refine AW_pickF rfl rfl rfl ?_
        | refine AW_skip rfl rfl rfl rfl ?_
        | refine AW_pickTg rfl rfl rfl rfl rfl rfl ?_
        | refine AW_pickFg rfl rfl rfl rfl rfl rfl ?_
        | refine AW_moveg rfl rfl rfl rfl rfl ?_
        | refine AW_notg rfl rfl rfl rfl rfl ?_
        | refine AW_eqg rfl rfl rfl rfl rfl rfl ?_
        | refine AW_eq rfl rfl rfl ?_
        | refine AW_loadg rfl rfl rfl rfl ty_num rfl rfl rfl rfl ?_
        | refine AW_loadg rfl rfl rfl rfl ty_row rfl rfl rfl rfl ?_
        | refine AW_loadg rfl rfl rfl rfl ty_rows rfl rfl rfl rfl ?_
        | refine AW_callg rfl rfl rfl rfl rfl (by first | exact ct_gsize _ (by assumption) | exact ct_limbOf 1 (by decide) (by decide) | exact ct_gzero _ | exact ct_Mul0 _ _ (by omega) (by omega) (by omega) | exact ct_Sub0 _ _ (by omega) (by assumption) (by assumption) | exact ct_TruncN _ _ (by assumption) (by assumption) (by assumption)) ?_
        | refine AW_nil (fun (h : false = true) => by cases h) ?_
        | refine AW_nil (fun (_ : true = true) => by kernel_rfl) ?_
        | refine Wp_block ?_
        | refine Wp_skip ?_
        | refine Wp_exit ?_
        | refine Wp_ret ?_
      refine AW_quiet rfl (q_lt rfl rfl) ?_
      repeat first
        | refine Wp_seq ?_
        | refine Wp_region tm_mixed ?_
        | refine AW_move rfl rfl ?_
        | refine AW_assign rfl rfl ?_
        | refine AW_load rfl ty_num rfl rfl rfl rfl ?_
        | refine AW_load rfl ty_row rfl rfl rfl rfl ?_
        | refine AW_load rfl ty_rows rfl rfl rfl rfl ?_
        | refine AW_store ty_num rfl rfl rfl rfl rfl rfl rfl ?_
        | refine AW_store ty_row rfl rfl rfl rfl rfl rfl rfl ?_
        | refine AW_store ty_rows rfl rfl rfl rfl rfl rfl rfl ?_
        | refine AW_extract rfl rfl rfl ?_
        | refine AW_alloc rfl tz_num ?_
        | refine AW_alloc rfl tz_row ?_
        | refine AW_alloc rfl tz_rows ?_
        | refine AW_box rfl rfl (row := true) rfl (fun h => by cases h) rfl ?_
        | refine AW_not rfl rfl ?_
        | refine AW_build rfl tb_num rfl ?_
        | refine AW_build rfl tb_row rfl ?_
        | refine AW_build rfl tb_rows rfl ?_
        | refine AW_call rfl rfl (by first | exact ct_gsize _ (by assumption) | exact ct_limbOf 1 (by decide) (by decide) | exact ct_gzero _ | exact ct_Mul0 _ _ (by omega) (by omega) (by omega) | exact ct_Sub0 _ _ (by omega) (by assumption) (by assumption) | exact ct_TruncN _ _ (by assumption) (by assumption) (by assumption)) ?_
        | refine AW_ints rfl tu_nums ti_num ti_size ti_zero rfl rfl rfl (by first | exact .cons _ _ _ _ _ rfl (.cons _ _ _ _ _ rfl (.nil _)) | exact .cons _ _ _ _ _ rfl (.cons _ _ _ _ _ rfl (.cons _ _ _ _ _ rfl (.cons _ _ _ _ _ rfl (.nil _)))) | exact .cons _ _ _ _ _ rfl (.cons _ _ _ _ _ rfl (.cons _ _ _ _ _ rfl (.nil _))) | exact .cons _ _ _ _ _ rfl (.cons _ _ _ _ _ rfl (.cons _ _ _ _ _ rfl (.cons _ _ _ _ _ rfl (.cons _ _ _ _ _ rfl (.nil _)))))) ?_
        | refine AW_fieldAddr rfl tf_row0 rfl rfl ?_ | refine AW_fieldAddr rfl tf_row1 rfl rfl ?_ | refine AW_arrayAt rfl Tryz.underlying116 ts_row rfl rfl rfl rfl ?_ | refine AW_arrayAt rfl Tryz.underlying75 ts_num rfl rfl rfl rfl ?_
        | refine AW_pickT rfl rfl rfl ?_
        | refine AW_pickF rfl rfl rfl ?_
        | refine AW_skip rfl rfl rfl rfl ?_
        | refine AW_pickTg rfl rfl rfl rfl rfl rfl ?_
        | refine AW_pickFg rfl rfl rfl rfl rfl rfl ?_
        | refine AW_moveg rfl rfl rfl rfl rfl ?_
        | refine AW_notg rfl rfl rfl rfl rfl ?_
        | refine AW_eqg rfl rfl rfl rfl rfl rfl ?_
        | refine AW_eq rfl rfl rfl ?_
        | refine AW_loadg rfl rfl rfl rfl ty_num rfl rfl rfl rfl ?_
        | refine AW_loadg rfl rfl rfl rfl ty_row rfl rfl rfl rfl ?_
        | refine AW_loadg rfl rfl rfl rfl ty_rows rfl rfl rfl rfl ?_
        | refine AW_callg rfl rfl rfl rfl rfl (by first | exact ct_gsize _ (by assumption) | exact ct_limbOf 1 (by decide) (by decide) | exact ct_gzero _ | exact ct_Mul0 _ _ (by omega) (by omega) (by omega) | exact ct_Sub0 _ _ (by omega) (by assumption) (by assumption) | exact ct_TruncN _ _ (by assumption) (by assumption) (by assumption)) ?_
        | refine AW_nil (fun (h : false = true) => by cases h) ?_
        | refine AW_nil (fun (_ : true = true) => by kernel_rfl) ?_
        | refine Wp_block ?_
        | refine Wp_skip ?_
        | refine Wp_exit ?_
        | refine Wp_ret ?_
      refine Wp_condT rfl ?_
      repeat first
        | refine Wp_seq ?_
        | refine Wp_region tm_mixed ?_
        | refine AW_move rfl rfl ?_
        | refine AW_assign rfl rfl ?_
        | refine AW_load rfl ty_num rfl rfl rfl rfl ?_
        | refine AW_load rfl ty_row rfl rfl rfl rfl ?_
        | refine AW_load rfl ty_rows rfl rfl rfl rfl ?_
        | refine AW_store ty_num rfl rfl rfl rfl rfl rfl rfl ?_
        | refine AW_store ty_row rfl rfl rfl rfl rfl rfl rfl ?_
        | refine AW_store ty_rows rfl rfl rfl rfl rfl rfl rfl ?_
        | refine AW_extract rfl rfl rfl ?_
        | refine AW_alloc rfl tz_num ?_
        | refine AW_alloc rfl tz_row ?_
        | refine AW_alloc rfl tz_rows ?_
        | refine AW_box rfl rfl (row := true) rfl (fun h => by cases h) rfl ?_
        | refine AW_not rfl rfl ?_
        | refine AW_build rfl tb_num rfl ?_
        | refine AW_build rfl tb_row rfl ?_
        | refine AW_build rfl tb_rows rfl ?_
        | refine AW_call rfl rfl (by first | exact ct_gsize _ (by assumption) | exact ct_limbOf 1 (by decide) (by decide) | exact ct_gzero _ | exact ct_Mul0 _ _ (by omega) (by omega) (by omega) | exact ct_Sub0 _ _ (by omega) (by assumption) (by assumption) | exact ct_TruncN _ _ (by assumption) (by assumption) (by assumption)) ?_
        | refine AW_ints rfl tu_nums ti_num ti_size ti_zero rfl rfl rfl (by first | exact .cons _ _ _ _ _ rfl (.cons _ _ _ _ _ rfl (.nil _)) | exact .cons _ _ _ _ _ rfl (.cons _ _ _ _ _ rfl (.cons _ _ _ _ _ rfl (.cons _ _ _ _ _ rfl (.nil _)))) | exact .cons _ _ _ _ _ rfl (.cons _ _ _ _ _ rfl (.cons _ _ _ _ _ rfl (.nil _))) | exact .cons _ _ _ _ _ rfl (.cons _ _ _ _ _ rfl (.cons _ _ _ _ _ rfl (.cons _ _ _ _ _ rfl (.cons _ _ _ _ _ rfl (.nil _)))))) ?_
        | refine AW_fieldAddr rfl tf_row0 rfl rfl ?_ | refine AW_fieldAddr rfl tf_row1 rfl rfl ?_ | refine AW_arrayAt rfl Tryz.underlying116 ts_row rfl rfl rfl rfl ?_ | refine AW_arrayAt rfl Tryz.underlying75 ts_num rfl rfl rfl rfl ?_
        | refine AW_pickT rfl rfl rfl ?_
        | refine AW_pickF rfl rfl rfl ?_
        | refine AW_skip rfl rfl rfl rfl ?_
        | refine AW_pickTg rfl rfl rfl rfl rfl rfl ?_
        | refine AW_pickFg rfl rfl rfl rfl rfl rfl ?_
        | refine AW_moveg rfl rfl rfl rfl rfl ?_
        | refine AW_notg rfl rfl rfl rfl rfl ?_
        | refine AW_eqg rfl rfl rfl rfl rfl rfl ?_
        | refine AW_eq rfl rfl rfl ?_
        | refine AW_loadg rfl rfl rfl rfl ty_num rfl rfl rfl rfl ?_
        | refine AW_loadg rfl rfl rfl rfl ty_row rfl rfl rfl rfl ?_
        | refine AW_loadg rfl rfl rfl rfl ty_rows rfl rfl rfl rfl ?_
        | refine AW_callg rfl rfl rfl rfl rfl (by first | exact ct_gsize _ (by assumption) | exact ct_limbOf 1 (by decide) (by decide) | exact ct_gzero _ | exact ct_Mul0 _ _ (by omega) (by omega) (by omega) | exact ct_Sub0 _ _ (by omega) (by assumption) (by assumption) | exact ct_TruncN _ _ (by assumption) (by assumption) (by assumption)) ?_
        | refine AW_nil (fun (h : false = true) => by cases h) ?_
        | refine AW_nil (fun (_ : true = true) => by kernel_rfl) ?_
        | refine Wp_block ?_
        | refine Wp_skip ?_
        | refine Wp_exit ?_
        | refine Wp_ret ?_
      refine Wp_cond rfl (fun hw => ?_) (fun hw => ?_)
      · subst hw
        rw [if_pos rfl] at hx
        have k2 : lc (y0 - ((n0 / n1 : Nat) : Int) * y1).natAbs ≤ 4096 := by rw [← hx]; exact Nat.le_trans t5 (by decide)
        repeat first
          | refine Wp_seq ?_
          | refine Wp_region tm_mixed ?_
          | refine AW_move rfl rfl ?_
          | refine AW_assign rfl rfl ?_
          | refine AW_load rfl ty_num rfl rfl rfl rfl ?_
          | refine AW_load rfl ty_row rfl rfl rfl rfl ?_
          | refine AW_load rfl ty_rows rfl rfl rfl rfl ?_
          | refine AW_store ty_num rfl rfl rfl rfl rfl rfl rfl ?_
          | refine AW_store ty_row rfl rfl rfl rfl rfl rfl rfl ?_
          | refine AW_store ty_rows rfl rfl rfl rfl rfl rfl rfl ?_
          | refine AW_extract rfl rfl rfl ?_
          | refine AW_alloc rfl tz_num ?_
          | refine AW_alloc rfl tz_row ?_
          | refine AW_alloc rfl tz_rows ?_
          | refine AW_box rfl rfl (row := true) rfl (fun h => by cases h) rfl ?_
          | refine AW_not rfl rfl ?_
          | refine AW_build rfl tb_num rfl ?_
          | refine AW_build rfl tb_row rfl ?_
          | refine AW_build rfl tb_rows rfl ?_
          | refine AW_call rfl rfl (by first | exact ct_gsize _ (by assumption) | exact ct_limbOf 1 (by decide) (by decide) | exact ct_gzero _ | exact ct_Mul0 _ _ (by omega) (by omega) (by omega) | exact ct_Sub0 _ _ (by omega) (by assumption) (by assumption) | exact ct_TruncN _ _ (by assumption) (by assumption) (by assumption)) ?_
          | refine AW_ints rfl tu_nums ti_num ti_size ti_zero rfl rfl rfl (by first | exact .cons _ _ _ _ _ rfl (.cons _ _ _ _ _ rfl (.nil _)) | exact .cons _ _ _ _ _ rfl (.cons _ _ _ _ _ rfl (.cons _ _ _ _ _ rfl (.cons _ _ _ _ _ rfl (.nil _)))) | exact .cons _ _ _ _ _ rfl (.cons _ _ _ _ _ rfl (.cons _ _ _ _ _ rfl (.nil _))) | exact .cons _ _ _ _ _ rfl (.cons _ _ _ _ _ rfl (.cons _ _ _ _ _ rfl (.cons _ _ _ _ _ rfl (.cons _ _ _ _ _ rfl (.nil _)))))) ?_
          | refine AW_fieldAddr rfl tf_row0 rfl rfl ?_ | refine AW_fieldAddr rfl tf_row1 rfl rfl ?_ | refine AW_arrayAt rfl Tryz.underlying116 ts_row rfl rfl rfl rfl ?_ | refine AW_arrayAt rfl Tryz.underlying75 ts_num rfl rfl rfl rfl ?_
          | refine AW_pickT rfl rfl rfl ?_
          | refine AW_pickF rfl rfl rfl ?_
          | refine AW_skip rfl rfl rfl rfl ?_
          | refine AW_pickTg rfl rfl rfl rfl rfl rfl ?_
          | refine AW_pickFg rfl rfl rfl rfl rfl rfl ?_
          | refine AW_moveg rfl rfl rfl rfl rfl ?_
          | refine AW_notg rfl rfl rfl rfl rfl ?_
          | refine AW_eqg rfl rfl rfl rfl rfl rfl ?_
          | refine AW_eq rfl rfl rfl ?_
          | refine AW_loadg rfl rfl rfl rfl ty_num rfl rfl rfl rfl ?_
          | refine AW_loadg rfl rfl rfl rfl ty_row rfl rfl rfl rfl ?_
          | refine AW_loadg rfl rfl rfl rfl ty_rows rfl rfl rfl rfl ?_
          | refine AW_callg rfl rfl rfl rfl rfl (by first | exact ct_gsize _ (by assumption) | exact ct_limbOf 1 (by decide) (by decide) | exact ct_gzero _ | exact ct_Mul0 _ _ (by omega) (by omega) (by omega) | exact ct_Sub0 _ _ (by omega) (by assumption) (by assumption) | exact ct_TruncN _ _ (by assumption) (by assumption) (by assumption)) ?_
          | refine AW_nil (fun (h : false = true) => by cases h) ?_
          | refine AW_nil (fun (_ : true = true) => by kernel_rfl) ?_
          | refine Wp_block ?_
          | refine Wp_skip ?_
          | refine Wp_exit ?_
          | refine Wp_ret ?_
        refine AW_quiet rfl (q_add rfl rfl) ?_
        repeat first
          | refine Wp_seq ?_
          | refine Wp_region tm_mixed ?_
          | refine AW_move rfl rfl ?_
          | refine AW_assign rfl rfl ?_
          | refine AW_load rfl ty_num rfl rfl rfl rfl ?_
          | refine AW_load rfl ty_row rfl rfl rfl rfl ?_
          | refine AW_load rfl ty_rows rfl rfl rfl rfl ?_
          | refine AW_store ty_num rfl rfl rfl rfl rfl rfl rfl ?_
          | refine AW_store ty_row rfl rfl rfl rfl rfl rfl rfl ?_
          | refine AW_store ty_rows rfl rfl rfl rfl rfl rfl rfl ?_
          | refine AW_extract rfl rfl rfl ?_
          | refine AW_alloc rfl tz_num ?_
          | refine AW_alloc rfl tz_row ?_
          | refine AW_alloc rfl tz_rows ?_
          | refine AW_box rfl rfl (row := true) rfl (fun h => by cases h) rfl ?_
          | refine AW_not rfl rfl ?_
          | refine AW_build rfl tb_num rfl ?_
          | refine AW_build rfl tb_row rfl ?_
          | refine AW_build rfl tb_rows rfl ?_
          | refine AW_call rfl rfl (by first | exact ct_gsize _ (by assumption) | exact ct_limbOf 1 (by decide) (by decide) | exact ct_gzero _ | exact ct_Mul0 _ _ (by omega) (by omega) (by omega) | exact ct_Sub0 _ _ (by omega) (by assumption) (by assumption) | exact ct_TruncN _ _ (by assumption) (by assumption) (by assumption)) ?_
          | refine AW_ints rfl tu_nums ti_num ti_size ti_zero rfl rfl rfl (by first | exact .cons _ _ _ _ _ rfl (.cons _ _ _ _ _ rfl (.nil _)) | exact .cons _ _ _ _ _ rfl (.cons _ _ _ _ _ rfl (.cons _ _ _ _ _ rfl (.cons _ _ _ _ _ rfl (.nil _)))) | exact .cons _ _ _ _ _ rfl (.cons _ _ _ _ _ rfl (.cons _ _ _ _ _ rfl (.nil _))) | exact .cons _ _ _ _ _ rfl (.cons _ _ _ _ _ rfl (.cons _ _ _ _ _ rfl (.cons _ _ _ _ _ rfl (.cons _ _ _ _ _ rfl (.nil _)))))) ?_
          | refine AW_fieldAddr rfl tf_row0 rfl rfl ?_ | refine AW_fieldAddr rfl tf_row1 rfl rfl ?_ | refine AW_arrayAt rfl Tryz.underlying116 ts_row rfl rfl rfl rfl ?_ | refine AW_arrayAt rfl Tryz.underlying75 ts_num rfl rfl rfl rfl ?_
          | refine AW_pickT rfl rfl rfl ?_
          | refine AW_pickF rfl rfl rfl ?_
          | refine AW_skip rfl rfl rfl rfl ?_
          | refine AW_pickTg rfl rfl rfl rfl rfl rfl ?_
          | refine AW_pickFg rfl rfl rfl rfl rfl rfl ?_
          | refine AW_moveg rfl rfl rfl rfl rfl ?_
          | refine AW_notg rfl rfl rfl rfl rfl ?_
          | refine AW_eqg rfl rfl rfl rfl rfl rfl ?_
          | refine AW_eq rfl rfl rfl ?_
          | refine AW_loadg rfl rfl rfl rfl ty_num rfl rfl rfl rfl ?_
          | refine AW_loadg rfl rfl rfl rfl ty_row rfl rfl rfl rfl ?_
          | refine AW_loadg rfl rfl rfl rfl ty_rows rfl rfl rfl rfl ?_
          | refine AW_callg rfl rfl rfl rfl rfl (by first | exact ct_gsize _ (by assumption) | exact ct_limbOf 1 (by decide) (by decide) | exact ct_gzero _ | exact ct_Mul0 _ _ (by omega) (by omega) (by omega) | exact ct_Sub0 _ _ (by omega) (by assumption) (by assumption) | exact ct_TruncN _ _ (by assumption) (by assumption) (by assumption)) ?_
          | refine AW_nil (fun (h : false = true) => by cases h) ?_
          | refine AW_nil (fun (_ : true = true) => by kernel_rfl) ?_
          | refine Wp_block ?_
          | refine Wp_skip ?_
          | refine Wp_exit ?_
          | refine Wp_ret ?_
        exact ⟨(2, rawOf nx, rawOf ny), ⟨by omega, fun _ => rfl, fun _ => rfl, by omega, by omega⟩, le_of ⟨rfl, rfl, rfl, rfl, rfl, rfl, rfl, trivial⟩ ⟨by rw [hx]; rfl, rfl, rfl, rfl, trivial⟩ rfl, by omega⟩
      · subst hw
        rw [if_neg (by decide)] at hx
        subst hx
        repeat first
          | refine Wp_seq ?_
          | refine Wp_region tm_mixed ?_
          | refine AW_move rfl rfl ?_
          | refine AW_assign rfl rfl ?_
          | refine AW_load rfl ty_num rfl rfl rfl rfl ?_
          | refine AW_load rfl ty_row rfl rfl rfl rfl ?_
          | refine AW_load rfl ty_rows rfl rfl rfl rfl ?_
          | refine AW_store ty_num rfl rfl rfl rfl rfl rfl rfl ?_
          | refine AW_store ty_row rfl rfl rfl rfl rfl rfl rfl ?_
          | refine AW_store ty_rows rfl rfl rfl rfl rfl rfl rfl ?_
          | refine AW_extract rfl rfl rfl ?_
          | refine AW_alloc rfl tz_num ?_
          | refine AW_alloc rfl tz_row ?_
          | refine AW_alloc rfl tz_rows ?_
          | refine AW_box rfl rfl (row := true) rfl (fun h => by cases h) rfl ?_
          | refine AW_not rfl rfl ?_
          | refine AW_build rfl tb_num rfl ?_
          | refine AW_build rfl tb_row rfl ?_
          | refine AW_build rfl tb_rows rfl ?_
          | refine AW_call rfl rfl (by first | exact ct_gsize _ (by assumption) | exact ct_limbOf 1 (by decide) (by decide) | exact ct_gzero _ | exact ct_Mul0 _ _ (by omega) (by omega) (by omega) | exact ct_Sub0 _ _ (by omega) (by assumption) (by assumption) | exact ct_TruncN _ _ (by assumption) (by assumption) (by assumption)) ?_
          | refine AW_ints rfl tu_nums ti_num ti_size ti_zero rfl rfl rfl (by first | exact .cons _ _ _ _ _ rfl (.cons _ _ _ _ _ rfl (.nil _)) | exact .cons _ _ _ _ _ rfl (.cons _ _ _ _ _ rfl (.cons _ _ _ _ _ rfl (.cons _ _ _ _ _ rfl (.nil _)))) | exact .cons _ _ _ _ _ rfl (.cons _ _ _ _ _ rfl (.cons _ _ _ _ _ rfl (.nil _))) | exact .cons _ _ _ _ _ rfl (.cons _ _ _ _ _ rfl (.cons _ _ _ _ _ rfl (.cons _ _ _ _ _ rfl (.cons _ _ _ _ _ rfl (.nil _)))))) ?_
          | refine AW_fieldAddr rfl tf_row0 rfl rfl ?_ | refine AW_fieldAddr rfl tf_row1 rfl rfl ?_ | refine AW_arrayAt rfl Tryz.underlying116 ts_row rfl rfl rfl rfl ?_ | refine AW_arrayAt rfl Tryz.underlying75 ts_num rfl rfl rfl rfl ?_
          | refine AW_pickT rfl rfl rfl ?_
          | refine AW_pickF rfl rfl rfl ?_
          | refine AW_skip rfl rfl rfl rfl ?_
          | refine AW_pickTg rfl rfl rfl rfl rfl rfl ?_
          | refine AW_pickFg rfl rfl rfl rfl rfl rfl ?_
          | refine AW_moveg rfl rfl rfl rfl rfl ?_
          | refine AW_notg rfl rfl rfl rfl rfl ?_
          | refine AW_eqg rfl rfl rfl rfl rfl rfl ?_
          | refine AW_eq rfl rfl rfl ?_
          | refine AW_loadg rfl rfl rfl rfl ty_num rfl rfl rfl rfl ?_
          | refine AW_loadg rfl rfl rfl rfl ty_row rfl rfl rfl rfl ?_
          | refine AW_loadg rfl rfl rfl rfl ty_rows rfl rfl rfl rfl ?_
          | refine AW_callg rfl rfl rfl rfl rfl (by first | exact ct_gsize _ (by assumption) | exact ct_limbOf 1 (by decide) (by decide) | exact ct_gzero _ | exact ct_Mul0 _ _ (by omega) (by omega) (by omega) | exact ct_Sub0 _ _ (by omega) (by assumption) (by assumption) | exact ct_TruncN _ _ (by assumption) (by assumption) (by assumption)) ?_
          | refine AW_nil (fun (h : false = true) => by cases h) ?_
          | refine AW_nil (fun (_ : true = true) => by kernel_rfl) ?_
          | refine Wp_block ?_
          | refine Wp_skip ?_
          | refine Wp_exit ?_
          | refine Wp_ret ?_
        refine AW_quiet rfl (q_add rfl rfl) ?_
        repeat first
          | refine Wp_seq ?_
          | refine Wp_region tm_mixed ?_
          | refine AW_move rfl rfl ?_
          | refine AW_assign rfl rfl ?_
          | refine AW_load rfl ty_num rfl rfl rfl rfl ?_
          | refine AW_load rfl ty_row rfl rfl rfl rfl ?_
          | refine AW_load rfl ty_rows rfl rfl rfl rfl ?_
          | refine AW_store ty_num rfl rfl rfl rfl rfl rfl rfl ?_
          | refine AW_store ty_row rfl rfl rfl rfl rfl rfl rfl ?_
          | refine AW_store ty_rows rfl rfl rfl rfl rfl rfl rfl ?_
          | refine AW_extract rfl rfl rfl ?_
          | refine AW_alloc rfl tz_num ?_
          | refine AW_alloc rfl tz_row ?_
          | refine AW_alloc rfl tz_rows ?_
          | refine AW_box rfl rfl (row := true) rfl (fun h => by cases h) rfl ?_
          | refine AW_not rfl rfl ?_
          | refine AW_build rfl tb_num rfl ?_
          | refine AW_build rfl tb_row rfl ?_
          | refine AW_build rfl tb_rows rfl ?_
          | refine AW_call rfl rfl (by first | exact ct_gsize _ (by assumption) | exact ct_limbOf 1 (by decide) (by decide) | exact ct_gzero _ | exact ct_Mul0 _ _ (by omega) (by omega) (by omega) | exact ct_Sub0 _ _ (by omega) (by assumption) (by assumption) | exact ct_TruncN _ _ (by assumption) (by assumption) (by assumption)) ?_
          | refine AW_ints rfl tu_nums ti_num ti_size ti_zero rfl rfl rfl (by first | exact .cons _ _ _ _ _ rfl (.cons _ _ _ _ _ rfl (.nil _)) | exact .cons _ _ _ _ _ rfl (.cons _ _ _ _ _ rfl (.cons _ _ _ _ _ rfl (.cons _ _ _ _ _ rfl (.nil _)))) | exact .cons _ _ _ _ _ rfl (.cons _ _ _ _ _ rfl (.cons _ _ _ _ _ rfl (.nil _))) | exact .cons _ _ _ _ _ rfl (.cons _ _ _ _ _ rfl (.cons _ _ _ _ _ rfl (.cons _ _ _ _ _ rfl (.cons _ _ _ _ _ rfl (.nil _)))))) ?_
          | refine AW_fieldAddr rfl tf_row0 rfl rfl ?_ | refine AW_fieldAddr rfl tf_row1 rfl rfl ?_ | refine AW_arrayAt rfl Tryz.underlying116 ts_row rfl rfl rfl rfl ?_ | refine AW_arrayAt rfl Tryz.underlying75 ts_num rfl rfl rfl rfl ?_
          | refine AW_pickT rfl rfl rfl ?_
          | refine AW_pickF rfl rfl rfl ?_
          | refine AW_skip rfl rfl rfl rfl ?_
          | refine AW_pickTg rfl rfl rfl rfl rfl rfl ?_
          | refine AW_pickFg rfl rfl rfl rfl rfl rfl ?_
          | refine AW_moveg rfl rfl rfl rfl rfl ?_
          | refine AW_notg rfl rfl rfl rfl rfl ?_
          | refine AW_eqg rfl rfl rfl rfl rfl rfl ?_
          | refine AW_eq rfl rfl rfl ?_
          | refine AW_loadg rfl rfl rfl rfl ty_num rfl rfl rfl rfl ?_
          | refine AW_loadg rfl rfl rfl rfl ty_row rfl rfl rfl rfl ?_
          | refine AW_loadg rfl rfl rfl rfl ty_rows rfl rfl rfl rfl ?_
          | refine AW_callg rfl rfl rfl rfl rfl (by first | exact ct_gsize _ (by assumption) | exact ct_limbOf 1 (by decide) (by decide) | exact ct_gzero _ | exact ct_Mul0 _ _ (by omega) (by omega) (by omega) | exact ct_Sub0 _ _ (by omega) (by assumption) (by assumption) | exact ct_TruncN _ _ (by assumption) (by assumption) (by assumption)) ?_
          | refine AW_nil (fun (h : false = true) => by cases h) ?_
          | refine AW_nil (fun (_ : true = true) => by kernel_rfl) ?_
          | refine Wp_block ?_
          | refine Wp_skip ?_
          | refine Wp_exit ?_
          | refine Wp_ret ?_
        exact ⟨(2, rawOf nx, (false, [])), ⟨by omega, fun _ => rfl, fun _ => rawOf_zero.symm, by omega, by omega⟩, le_of ⟨rfl, rfl, rfl, rfl, rfl, rfl, rfl, trivial⟩ ⟨rfl, rfl, rfl, rfl, trivial⟩ rfl, by omega⟩
    · obtain rfl := hu1 (by omega)
      obtain rfl := hv2 (by omega)
      repeat first
        | refine Wp_seq ?_
        | refine Wp_region tm_mixed ?_
        | refine AW_move rfl rfl ?_
        | refine AW_assign rfl rfl ?_
        | refine AW_load rfl ty_num rfl rfl rfl rfl ?_
        | refine AW_load rfl ty_row rfl rfl rfl rfl ?_
        | refine AW_load rfl ty_rows rfl rfl rfl rfl ?_
        | refine AW_store ty_num rfl rfl rfl rfl rfl rfl rfl ?_
        | refine AW_store ty_row rfl rfl rfl rfl rfl rfl rfl ?_
        | refine AW_store ty_rows rfl rfl rfl rfl rfl rfl rfl ?_
        | refine AW_extract rfl rfl rfl ?_
        | refine AW_alloc rfl tz_num ?_
        | refine AW_alloc rfl tz_row ?_
        | refine AW_alloc rfl tz_rows ?_
        | refine AW_box rfl rfl (row := true) rfl (fun h => by cases h) rfl ?_
        | refine AW_not rfl rfl ?_
        | refine AW_build rfl tb_num rfl ?_
        | refine AW_build rfl tb_row rfl ?_
        | refine AW_build rfl tb_rows rfl ?_
        | refine AW_call rfl rfl (by first | exact ct_gsize _ (by assumption) | exact ct_limbOf 1 (by decide) (by decide) | exact ct_gzero _ | exact ct_Mul0 _ _ (by omega) (by omega) (by omega) | exact ct_Sub0 _ _ (by omega) (by assumption) (by assumption) | exact ct_TruncN _ _ (by assumption) (by assumption) (by assumption)) ?_
        | refine AW_ints rfl tu_nums ti_num ti_size ti_zero rfl rfl rfl (by first | exact .cons _ _ _ _ _ rfl (.cons _ _ _ _ _ rfl (.nil _)) | exact .cons _ _ _ _ _ rfl (.cons _ _ _ _ _ rfl (.cons _ _ _ _ _ rfl (.cons _ _ _ _ _ rfl (.nil _)))) | exact .cons _ _ _ _ _ rfl (.cons _ _ _ _ _ rfl (.cons _ _ _ _ _ rfl (.nil _))) | exact .cons _ _ _ _ _ rfl (.cons _ _ _ _ _ rfl (.cons _ _ _ _ _ rfl (.cons _ _ _ _ _ rfl (.cons _ _ _ _ _ rfl (.nil _)))))) ?_
        | refine AW_fieldAddr rfl tf_row0 rfl rfl ?_ | refine AW_fieldAddr rfl tf_row1 rfl rfl ?_ | refine AW_arrayAt rfl Tryz.underlying116 ts_row rfl rfl rfl rfl ?_ | refine AW_arrayAt rfl Tryz.underlying75 ts_num rfl rfl rfl rfl ?_
        | refine AW_pickT rfl rfl rfl ?_
        | refine AW_pickF rfl rfl rfl ?_
        | refine AW_skip rfl rfl rfl rfl ?_
        | refine AW_pickTg rfl rfl rfl rfl rfl rfl ?_
        | refine AW_pickFg rfl rfl rfl rfl rfl rfl ?_
        | refine AW_moveg rfl rfl rfl rfl rfl ?_
        | refine AW_notg rfl rfl rfl rfl rfl ?_
        | refine AW_eqg rfl rfl rfl rfl rfl rfl ?_
        | refine AW_eq rfl rfl rfl ?_
        | refine AW_loadg rfl rfl rfl rfl ty_num rfl rfl rfl rfl ?_
        | refine AW_loadg rfl rfl rfl rfl ty_row rfl rfl rfl rfl ?_
        | refine AW_loadg rfl rfl rfl rfl ty_rows rfl rfl rfl rfl ?_
        | refine AW_callg rfl rfl rfl rfl rfl (by first | exact ct_gsize _ (by assumption) | exact ct_limbOf 1 (by decide) (by decide) | exact ct_gzero _ | exact ct_Mul0 _ _ (by omega) (by omega) (by omega) | exact ct_Sub0 _ _ (by omega) (by assumption) (by assumption) | exact ct_TruncN _ _ (by assumption) (by assumption) (by assumption)) ?_
        | refine AW_nil (fun (h : false = true) => by cases h) ?_
        | refine AW_nil (fun (_ : true = true) => by kernel_rfl) ?_
        | refine Wp_block ?_
        | refine Wp_skip ?_
        | refine Wp_exit ?_
        | refine Wp_ret ?_
      refine AW_quiet rfl (q_lt rfl rfl) ?_
      repeat first
        | refine Wp_seq ?_
        | refine Wp_region tm_mixed ?_
        | refine AW_move rfl rfl ?_
        | refine AW_assign rfl rfl ?_
        | refine AW_load rfl ty_num rfl rfl rfl rfl ?_
        | refine AW_load rfl ty_row rfl rfl rfl rfl ?_
        | refine AW_load rfl ty_rows rfl rfl rfl rfl ?_
        | refine AW_store ty_num rfl rfl rfl rfl rfl rfl rfl ?_
        | refine AW_store ty_row rfl rfl rfl rfl rfl rfl rfl ?_
        | refine AW_store ty_rows rfl rfl rfl rfl rfl rfl rfl ?_
        | refine AW_extract rfl rfl rfl ?_
        | refine AW_alloc rfl tz_num ?_
        | refine AW_alloc rfl tz_row ?_
        | refine AW_alloc rfl tz_rows ?_
        | refine AW_box rfl rfl (row := true) rfl (fun h => by cases h) rfl ?_
        | refine AW_not rfl rfl ?_
        | refine AW_build rfl tb_num rfl ?_
        | refine AW_build rfl tb_row rfl ?_
        | refine AW_build rfl tb_rows rfl ?_
        | refine AW_call rfl rfl (by first | exact ct_gsize _ (by assumption) | exact ct_limbOf 1 (by decide) (by decide) | exact ct_gzero _ | exact ct_Mul0 _ _ (by omega) (by omega) (by omega) | exact ct_Sub0 _ _ (by omega) (by assumption) (by assumption) | exact ct_TruncN _ _ (by assumption) (by assumption) (by assumption)) ?_
        | refine AW_ints rfl tu_nums ti_num ti_size ti_zero rfl rfl rfl (by first | exact .cons _ _ _ _ _ rfl (.cons _ _ _ _ _ rfl (.nil _)) | exact .cons _ _ _ _ _ rfl (.cons _ _ _ _ _ rfl (.cons _ _ _ _ _ rfl (.cons _ _ _ _ _ rfl (.nil _)))) | exact .cons _ _ _ _ _ rfl (.cons _ _ _ _ _ rfl (.cons _ _ _ _ _ rfl (.nil _))) | exact .cons _ _ _ _ _ rfl (.cons _ _ _ _ _ rfl (.cons _ _ _ _ _ rfl (.cons _ _ _ _ _ rfl (.cons _ _ _ _ _ rfl (.nil _)))))) ?_
        | refine AW_fieldAddr rfl tf_row0 rfl rfl ?_ | refine AW_fieldAddr rfl tf_row1 rfl rfl ?_ | refine AW_arrayAt rfl Tryz.underlying116 ts_row rfl rfl rfl rfl ?_ | refine AW_arrayAt rfl Tryz.underlying75 ts_num rfl rfl rfl rfl ?_
        | refine AW_pickT rfl rfl rfl ?_
        | refine AW_pickF rfl rfl rfl ?_
        | refine AW_skip rfl rfl rfl rfl ?_
        | refine AW_pickTg rfl rfl rfl rfl rfl rfl ?_
        | refine AW_pickFg rfl rfl rfl rfl rfl rfl ?_
        | refine AW_moveg rfl rfl rfl rfl rfl ?_
        | refine AW_notg rfl rfl rfl rfl rfl ?_
        | refine AW_eqg rfl rfl rfl rfl rfl rfl ?_
        | refine AW_eq rfl rfl rfl ?_
        | refine AW_loadg rfl rfl rfl rfl ty_num rfl rfl rfl rfl ?_
        | refine AW_loadg rfl rfl rfl rfl ty_row rfl rfl rfl rfl ?_
        | refine AW_loadg rfl rfl rfl rfl ty_rows rfl rfl rfl rfl ?_
        | refine AW_callg rfl rfl rfl rfl rfl (by first | exact ct_gsize _ (by assumption) | exact ct_limbOf 1 (by decide) (by decide) | exact ct_gzero _ | exact ct_Mul0 _ _ (by omega) (by omega) (by omega) | exact ct_Sub0 _ _ (by omega) (by assumption) (by assumption) | exact ct_TruncN _ _ (by assumption) (by assumption) (by assumption)) ?_
        | refine AW_nil (fun (h : false = true) => by cases h) ?_
        | refine AW_nil (fun (_ : true = true) => by kernel_rfl) ?_
        | refine Wp_block ?_
        | refine Wp_skip ?_
        | refine Wp_exit ?_
        | refine Wp_ret ?_
      refine Wp_condF rfl ?_
      repeat first
        | refine Wp_seq ?_
        | refine Wp_region tm_mixed ?_
        | refine AW_move rfl rfl ?_
        | refine AW_assign rfl rfl ?_
        | refine AW_load rfl ty_num rfl rfl rfl rfl ?_
        | refine AW_load rfl ty_row rfl rfl rfl rfl ?_
        | refine AW_load rfl ty_rows rfl rfl rfl rfl ?_
        | refine AW_store ty_num rfl rfl rfl rfl rfl rfl rfl ?_
        | refine AW_store ty_row rfl rfl rfl rfl rfl rfl rfl ?_
        | refine AW_store ty_rows rfl rfl rfl rfl rfl rfl rfl ?_
        | refine AW_extract rfl rfl rfl ?_
        | refine AW_alloc rfl tz_num ?_
        | refine AW_alloc rfl tz_row ?_
        | refine AW_alloc rfl tz_rows ?_
        | refine AW_box rfl rfl (row := true) rfl (fun h => by cases h) rfl ?_
        | refine AW_not rfl rfl ?_
        | refine AW_build rfl tb_num rfl ?_
        | refine AW_build rfl tb_row rfl ?_
        | refine AW_build rfl tb_rows rfl ?_
        | refine AW_call rfl rfl (by first | exact ct_gsize _ (by assumption) | exact ct_limbOf 1 (by decide) (by decide) | exact ct_gzero _ | exact ct_Mul0 _ _ (by omega) (by omega) (by omega) | exact ct_Sub0 _ _ (by omega) (by assumption) (by assumption) | exact ct_TruncN _ _ (by assumption) (by assumption) (by assumption)) ?_
        | refine AW_ints rfl tu_nums ti_num ti_size ti_zero rfl rfl rfl (by first | exact .cons _ _ _ _ _ rfl (.cons _ _ _ _ _ rfl (.nil _)) | exact .cons _ _ _ _ _ rfl (.cons _ _ _ _ _ rfl (.cons _ _ _ _ _ rfl (.cons _ _ _ _ _ rfl (.nil _)))) | exact .cons _ _ _ _ _ rfl (.cons _ _ _ _ _ rfl (.cons _ _ _ _ _ rfl (.nil _))) | exact .cons _ _ _ _ _ rfl (.cons _ _ _ _ _ rfl (.cons _ _ _ _ _ rfl (.cons _ _ _ _ _ rfl (.cons _ _ _ _ _ rfl (.nil _)))))) ?_
        | refine AW_fieldAddr rfl tf_row0 rfl rfl ?_ | refine AW_fieldAddr rfl tf_row1 rfl rfl ?_ | refine AW_arrayAt rfl Tryz.underlying116 ts_row rfl rfl rfl rfl ?_ | refine AW_arrayAt rfl Tryz.underlying75 ts_num rfl rfl rfl rfl ?_
        | refine AW_pickT rfl rfl rfl ?_
        | refine AW_pickF rfl rfl rfl ?_
        | refine AW_skip rfl rfl rfl rfl ?_
        | refine AW_pickTg rfl rfl rfl rfl rfl rfl ?_
        | refine AW_pickFg rfl rfl rfl rfl rfl rfl ?_
        | refine AW_moveg rfl rfl rfl rfl rfl ?_
        | refine AW_notg rfl rfl rfl rfl rfl ?_
        | refine AW_eqg rfl rfl rfl rfl rfl rfl ?_
        | refine AW_eq rfl rfl rfl ?_
        | refine AW_loadg rfl rfl rfl rfl ty_num rfl rfl rfl rfl ?_
        | refine AW_loadg rfl rfl rfl rfl ty_row rfl rfl rfl rfl ?_
        | refine AW_loadg rfl rfl rfl rfl ty_rows rfl rfl rfl rfl ?_
        | refine AW_callg rfl rfl rfl rfl rfl (by first | exact ct_gsize _ (by assumption) | exact ct_limbOf 1 (by decide) (by decide) | exact ct_gzero _ | exact ct_Mul0 _ _ (by omega) (by omega) (by omega) | exact ct_Sub0 _ _ (by omega) (by assumption) (by assumption) | exact ct_TruncN _ _ (by assumption) (by assumption) (by assumption)) ?_
        | refine AW_nil (fun (h : false = true) => by cases h) ?_
        | refine AW_nil (fun (_ : true = true) => by kernel_rfl) ?_
        | refine Wp_block ?_
        | refine Wp_skip ?_
        | refine Wp_exit ?_
        | refine Wp_ret ?_
      exact ⟨⟨n1, n0 % n1, x1, y1, nx, ny, rawOf (n1 : Int), rawOf x1, rawOf y1, rawOf ((n0 % n1 : Nat) : Int), rawOf nx, rawOf ny⟩, ⟨rfl, rfl, rfl, rfl, rfl, rfl, hg2, he⟩, le_of ⟨rfl, rfl, rfl, trivial⟩ ⟨rfl, rfl, trivial⟩ rfl, Nat.mod_lt _ (Nat.pos_of_ne_zero hn)⟩
  · have hn : n1 = 0 := by
      refine rawOf_len.1 (Decidable.byContradiction fun h => ?_)
      rw [decide_eq_false h] at hc
      cases hc
    subst hn
    rw [euc_zero] at he
    rw [← he]
    repeat first
      | refine Wp_seq ?_
      | refine Wp_region tm_mixed ?_
      | refine AW_move rfl rfl ?_
      | refine AW_assign rfl rfl ?_
      | refine AW_load rfl ty_num rfl rfl rfl rfl ?_
      | refine AW_load rfl ty_row rfl rfl rfl rfl ?_
      | refine AW_load rfl ty_rows rfl rfl rfl rfl ?_
      | refine AW_store ty_num rfl rfl rfl rfl rfl rfl rfl ?_
      | refine AW_store ty_row rfl rfl rfl rfl rfl rfl rfl ?_
      | refine AW_store ty_rows rfl rfl rfl rfl rfl rfl rfl ?_
      | refine AW_extract rfl rfl rfl ?_
      | refine AW_alloc rfl tz_num ?_
      | refine AW_alloc rfl tz_row ?_
      | refine AW_alloc rfl tz_rows ?_
      | refine AW_box rfl rfl (row := true) rfl (fun h => by cases h) rfl ?_
      | refine AW_not rfl rfl ?_
      | refine AW_build rfl tb_num rfl ?_
      | refine AW_build rfl tb_row rfl ?_
      | refine AW_build rfl tb_rows rfl ?_
      | refine AW_call rfl rfl (by first | exact ct_gsize _ (by assumption) | exact ct_limbOf 1 (by decide) (by decide) | exact ct_gzero _ | exact ct_Mul0 _ _ (by omega) (by omega) (by omega) | exact ct_Sub0 _ _ (by omega) (by assumption) (by assumption) | exact ct_TruncN _ _ (by assumption) (by assumption) (by assumption)) ?_
      | refine AW_ints rfl tu_nums ti_num ti_size ti_zero rfl rfl rfl (by first | exact .cons _ _ _ _ _ rfl (.cons _ _ _ _ _ rfl (.nil _)) | exact .cons _ _ _ _ _ rfl (.cons _ _ _ _ _ rfl (.cons _ _ _ _ _ rfl (.cons _ _ _ _ _ rfl (.nil _)))) | exact .cons _ _ _ _ _ rfl (.cons _ _ _ _ _ rfl (.cons _ _ _ _ _ rfl (.nil _))) | exact .cons _ _ _ _ _ rfl (.cons _ _ _ _ _ rfl (.cons _ _ _ _ _ rfl (.cons _ _ _ _ _ rfl (.cons _ _ _ _ _ rfl (.nil _)))))) ?_
      | refine AW_fieldAddr rfl tf_row0 rfl rfl ?_ | refine AW_fieldAddr rfl tf_row1 rfl rfl ?_ | refine AW_arrayAt rfl Tryz.underlying116 ts_row rfl rfl rfl rfl ?_ | refine AW_arrayAt rfl Tryz.underlying75 ts_num rfl rfl rfl rfl ?_
      | refine AW_pickT rfl rfl rfl ?_
      | refine AW_pickF rfl rfl rfl ?_
      | refine AW_skip rfl rfl rfl rfl ?_
      | refine AW_pickTg rfl rfl rfl rfl rfl rfl ?_
      | refine AW_pickFg rfl rfl rfl rfl rfl rfl ?_
      | refine AW_moveg rfl rfl rfl rfl rfl ?_
      | refine AW_notg rfl rfl rfl rfl rfl ?_
      | refine AW_eqg rfl rfl rfl rfl rfl rfl ?_
      | refine AW_eq rfl rfl rfl ?_
      | refine AW_loadg rfl rfl rfl rfl ty_num rfl rfl rfl rfl ?_
      | refine AW_loadg rfl rfl rfl rfl ty_row rfl rfl rfl rfl ?_
      | refine AW_loadg rfl rfl rfl rfl ty_rows rfl rfl rfl rfl ?_
      | refine AW_callg rfl rfl rfl rfl rfl (by first | exact ct_gsize _ (by assumption) | exact ct_limbOf 1 (by decide) (by decide) | exact ct_gzero _ | exact ct_Mul0 _ _ (by omega) (by omega) (by omega) | exact ct_Sub0 _ _ (by omega) (by assumption) (by assumption) | exact ct_TruncN _ _ (by assumption) (by assumption) (by assumption)) ?_
      | refine AW_nil (fun (h : false = true) => by cases h) ?_
      | refine AW_nil (fun (_ : true = true) => by kernel_rfl) ?_
      | refine Wp_block ?_
      | refine Wp_skip ?_
      | refine Wp_exit ?_
      | refine Wp_ret ?_
    exact ⟨.inr rfl, _, .cell _ _ _ _ _ _ _ _ _ _ _ ty_row rfl rfl rfl .nil, rfl⟩
end Go.Proofs.YtonbhpadoplpkaaGreat
/- The package gcd, by the abstract machine: Of, Lcm. -/
namespace Go.Proofs.YtonbhpadoplpkaaGreat
open Go.RowKit Go.Deep
theorem right_raw {z : Int} (h : lc z.natAbs ≤ 4096) : rightInt (rawOf z) = true := right_of h
theorem euc_gcd (whole : Bool) (n0 n1 : Nat) (x0 y0 x1 y1 : Int) : (euc whole n0 n1 x0 y0 x1 y1).1 = Nat.gcd n0 n1 := by
  induction n1 using Nat.strongRecOn generalizing n0 x0 y0 x1 y1 with
  | _ n1 ih =>
    by_cases h : n1 = 0
    · subst h; rw [euc_zero, Nat.gcd_zero_right]
    · rw [euc_step _ _ _ _ _ _ _ h, ih _ (Nat.mod_lt _ (Nat.pos_of_ne_zero h)), Nat.gcd_comm n1, ← Nat.gcd_rec, Nat.gcd_comm]
theorem eucR_gcd (whole : Bool) (a b : Nat) : (eucR whole a b).1 = Nat.gcd a b := euc_gcd _ _ _ _ _ _ _
theorem euc_row {A B : Nat} {whole : Bool} (n0 n1 : Nat) (x0 y0 x1 y1 : Int) (h : GRow A B whole n0 n1 x0 y0 x1 y1) : ∃ x2 y2, GRow A B whole (euc whole n0 n1 x0 y0 x1 y1).1 0 (euc whole n0 n1 x0 y0 x1 y1).2.1 (euc whole n0 n1 x0 y0 x1 y1).2.2 x2 y2 := by
  induction n1 using Nat.strongRecOn generalizing n0 x0 y0 x1 y1 with
  | _ n1 ih =>
    by_cases hn : n1 = 0
    · subst hn; rw [euc_zero]; exact ⟨x1, y1, h⟩
    · rw [euc_step _ _ _ _ _ _ _ hn]
      exact ih _ (Nat.mod_lt _ (Nat.pos_of_ne_zero hn)) _ _ _ _ _ (h.step hn)
theorem eucR_row (whole : Bool) (a b : Nat) : ∃ x2 y2, GRow a b whole (eucR whole a b).1 0 (eucR whole a b).2.1 (eucR whole a b).2.2 x2 y2 := euc_row _ _ _ _ _ _ (GRow.start a b whole)
theorem gcd_small {a b : Int} {k : Nat} (ha : lc a.natAbs ≤ k) (hb : lc b.natAbs ≤ k) : lc (Nat.gcd a.natAbs b.natAbs) ≤ k := by
  by_cases h : a.natAbs = 0
  · rw [h, Nat.gcd_zero_left]; exact hb
  · exact Nat.le_trans (lc_mono (Nat.le_of_dvd (by omega) (Nat.gcd_dvd_left _ _))) ha
abbrev gcdZ (a b : Int) : Int := (Nat.gcd a.natAbs b.natAbs : Nat)
set_option maxRecDepth 100000 in
theorem ct_gOf (a b : Int) (ha : lc a.natAbs ≤ 90) (hb : lc b.natAbs ≤ 90) : Ct Tryz.prog 27 [aZ a, aZ b] (.tup [zZ (gcdZ a b), aI 0]) := by
  refine ct_of_wp [.cell 4 24, .tmp 5] [(0, aZ a), (1, aZ b)] 16 Tryz.func27 rfl rfl rfl rfl rfl rfl rfl rfl ?_
  intro G0 w0
  repeat first
    | refine Wp_seq ?_
    | refine Wp_region tm_mixed ?_
    | refine AW_move rfl rfl ?_
    | refine AW_assign rfl rfl ?_
    | refine AW_load rfl ty_num rfl rfl rfl rfl ?_
    | refine AW_store ty_num rfl rfl rfl rfl rfl rfl rfl ?_
    | refine AW_extract rfl rfl rfl ?_
    | refine AW_alloc rfl tz_num ?_
    | refine AW_box rfl rfl (row := true) rfl (fun h => by cases h) rfl ?_
    | refine AW_not rfl rfl ?_
    | refine AW_build rfl tb_num rfl ?_
    | refine AW_call rfl rfl (by first | exact ct_right _ (Nat.le_of_ble_eq_true rfl) | exact ct_run _ _ _ ha hb) ?_
    | refine AW_ints rfl tu_nums ti_num ti_size ti_zero rfl rfl rfl (by first | exact .cons _ _ _ _ _ rfl (.cons _ _ _ _ _ rfl (.nil _)) | exact .cons _ _ _ _ _ rfl (.cons _ _ _ _ _ rfl (.cons _ _ _ _ _ rfl (.cons _ _ _ _ _ rfl (.nil _)))) | exact .cons _ _ _ _ _ rfl (.cons _ _ _ _ _ rfl (.cons _ _ _ _ _ rfl (.nil _))) | exact .cons _ _ _ _ _ rfl (.cons _ _ _ _ _ rfl (.cons _ _ _ _ _ rfl (.cons _ _ _ _ _ rfl (.cons _ _ _ _ _ rfl (.nil _)))))) ?_
    | refine AW_field rfl tf_row0 rfl rfl rfl ?_
    | refine AW_pickT rfl rfl rfl ?_
    | refine AW_pickF rfl rfl rfl ?_
    | refine AW_skip rfl rfl rfl rfl ?_
    | refine AW_pickTg rfl rfl rfl rfl rfl rfl ?_
    | refine AW_pickFg rfl rfl rfl rfl rfl rfl ?_
    | refine AW_moveg rfl rfl rfl rfl rfl ?_
    | refine AW_notg rfl rfl rfl rfl rfl ?_
    | refine AW_eqg rfl rfl rfl rfl rfl rfl ?_
    | refine AW_eq rfl rfl rfl ?_
    | refine AW_loadg rfl rfl rfl rfl ty_num rfl rfl rfl rfl ?_
    | refine AW_callg rfl rfl rfl rfl rfl (by first | exact ct_right _ (Nat.le_of_ble_eq_true rfl) | exact ct_run _ _ _ ha hb) ?_
    | refine AW_nil (fun (h : false = true) => by cases h) ?_
    | refine AW_nil (fun (_ : true = true) => by kernel_rfl) ?_
    | refine Wp_block ?_
    | refine Wp_skip ?_
    | refine Wp_exit ?_
    | refine Wp_ret ?_
  refine Wp_cond rfl (fun hc => ?_) (fun hc => ?_)
  · simp [right_raw (Nat.le_trans ha (by decide)), right_raw (Nat.le_trans hb (by decide))] at hc
  · repeat first
      | refine Wp_seq ?_
      | refine Wp_region tm_mixed ?_
      | refine AW_move rfl rfl ?_
      | refine AW_assign rfl rfl ?_
      | refine AW_load rfl ty_num rfl rfl rfl rfl ?_
      | refine AW_store ty_num rfl rfl rfl rfl rfl rfl rfl ?_
      | refine AW_extract rfl rfl rfl ?_
      | refine AW_alloc rfl tz_num ?_
      | refine AW_box rfl rfl (row := true) rfl (fun h => by cases h) rfl ?_
      | refine AW_not rfl rfl ?_
      | refine AW_build rfl tb_num rfl ?_
      | refine AW_call rfl rfl (by first | exact ct_right _ (Nat.le_of_ble_eq_true rfl) | exact ct_run _ _ _ ha hb) ?_
      | refine AW_ints rfl tu_nums ti_num ti_size ti_zero rfl rfl rfl (by first | exact .cons _ _ _ _ _ rfl (.cons _ _ _ _ _ rfl (.nil _)) | exact .cons _ _ _ _ _ rfl (.cons _ _ _ _ _ rfl (.cons _ _ _ _ _ rfl (.cons _ _ _ _ _ rfl (.nil _)))) | exact .cons _ _ _ _ _ rfl (.cons _ _ _ _ _ rfl (.cons _ _ _ _ _ rfl (.nil _))) | exact .cons _ _ _ _ _ rfl (.cons _ _ _ _ _ rfl (.cons _ _ _ _ _ rfl (.cons _ _ _ _ _ rfl (.cons _ _ _ _ _ rfl (.nil _)))))) ?_
      | refine AW_field rfl tf_row0 rfl rfl rfl ?_
      | refine AW_pickT rfl rfl rfl ?_
      | refine AW_pickF rfl rfl rfl ?_
      | refine AW_skip rfl rfl rfl rfl ?_
      | refine AW_pickTg rfl rfl rfl rfl rfl rfl ?_
      | refine AW_pickFg rfl rfl rfl rfl rfl rfl ?_
      | refine AW_moveg rfl rfl rfl rfl rfl ?_
      | refine AW_notg rfl rfl rfl rfl rfl ?_
      | refine AW_eqg rfl rfl rfl rfl rfl rfl ?_
      | refine AW_eq rfl rfl rfl ?_
      | refine AW_loadg rfl rfl rfl rfl ty_num rfl rfl rfl rfl ?_
      | refine AW_callg rfl rfl rfl rfl rfl (by first | exact ct_right _ (Nat.le_of_ble_eq_true rfl) | exact ct_run _ _ _ ha hb) ?_
      | refine AW_nil (fun (h : false = true) => by cases h) ?_
      | refine AW_nil (fun (_ : true = true) => by kernel_rfl) ?_
      | refine Wp_block ?_
      | refine Wp_skip ?_
      | refine Wp_exit ?_
      | refine Wp_ret ?_
    exact ⟨.inr rfl, _, .cell _ _ _ _ _ _ _ _ _ _ _ ty_num rfl rfl rfl (.tmp _ _ _ _ rfl .nil), by rw [eucR_gcd]; rfl⟩
def lcmZ (a b : Int) : Int := (a.natAbs : Int) * ((b.natAbs / Nat.gcd a.natAbs b.natAbs : Nat) : Int)
def lcmR (a b : Int) : Raw := if a = 0 ∨ b = 0 then (false, []) else rawOf (lcmZ a b)
set_option maxRecDepth 100000 in
theorem ct_gLcm (a b : Int) (ha : lc a.natAbs ≤ 90) (hb : lc b.natAbs ≤ 90) : Ct Tryz.prog 29 [aZ a, aZ b] (.tup [aInt (lcmR a b), aI 0]) := by
  have hla : lc a.natAbs ≤ 1099511627776 := by omega
  have hlb : lc b.natAbs ≤ 1099511627776 := by omega
  refine ct_of_wp [.cell 4 24, .tmp 5] [(0, aZ a), (1, aZ b)] 41 Tryz.func29 rfl rfl rfl rfl rfl rfl rfl rfl ?_
  intro G0 w0
  by_cases h0 : a = 0
  · have hR : lcmR a b = (false, []) := by unfold lcmR; rw [if_pos (.inl h0)]
    rw [hR]
    repeat first
      | refine Wp_seq ?_
      | refine Wp_region tm_mixed ?_
      | refine AW_move rfl rfl ?_
      | refine AW_assign rfl rfl ?_
      | refine AW_load rfl ty_num rfl rfl rfl rfl ?_
      | refine AW_store ty_num rfl rfl rfl rfl rfl rfl rfl ?_
      | refine AW_extract rfl rfl rfl ?_
      | refine AW_alloc rfl tz_num ?_
      | refine AW_box rfl rfl (row := true) rfl (fun h => by cases h) rfl ?_
      | refine AW_not rfl rfl ?_
      | refine AW_build rfl tb_num rfl ?_
      | refine AW_call rfl rfl (by first | exact ct_right _ (Nat.le_of_ble_eq_true rfl) | exact ct_gzeroT _ (by assumption) | exact ct_gzeroF _ (by assumption) | exact ct_gsize _ (by assumption) | exact ct_run _ _ _ ha hb) ?_
      | refine AW_ints rfl tu_nums ti_num ti_size ti_zero rfl rfl rfl (by first | exact .cons _ _ _ _ _ rfl (.cons _ _ _ _ _ rfl (.nil _)) | exact .cons _ _ _ _ _ rfl (.cons _ _ _ _ _ rfl (.cons _ _ _ _ _ rfl (.cons _ _ _ _ _ rfl (.nil _)))) | exact .cons _ _ _ _ _ rfl (.cons _ _ _ _ _ rfl (.cons _ _ _ _ _ rfl (.nil _))) | exact .cons _ _ _ _ _ rfl (.cons _ _ _ _ _ rfl (.cons _ _ _ _ _ rfl (.cons _ _ _ _ _ rfl (.cons _ _ _ _ _ rfl (.nil _)))))) ?_
      | refine AW_field rfl tf_row0 rfl rfl rfl ?_
      | refine AW_pickT rfl rfl rfl ?_
      | refine AW_pickF rfl rfl rfl ?_
      | refine AW_skip rfl rfl rfl rfl ?_
      | refine AW_pickTg rfl rfl rfl rfl rfl rfl ?_
      | refine AW_pickFg rfl rfl rfl rfl rfl rfl ?_
      | refine AW_moveg rfl rfl rfl rfl rfl ?_
      | refine AW_notg rfl rfl rfl rfl rfl ?_
      | refine AW_eqg rfl rfl rfl rfl rfl rfl ?_
      | refine AW_eq rfl rfl rfl ?_
      | refine AW_loadg rfl rfl rfl rfl ty_num rfl rfl rfl rfl ?_
      | refine AW_callg rfl rfl rfl rfl rfl (by first | exact ct_right _ (Nat.le_of_ble_eq_true rfl) | exact ct_gzeroT _ (by assumption) | exact ct_gzeroF _ (by assumption) | exact ct_gsize _ (by assumption) | exact ct_run _ _ _ ha hb) ?_
      | refine AW_nil (fun (h : false = true) => by cases h) ?_
      | refine AW_nil (fun (_ : true = true) => by kernel_rfl) ?_
      | refine Wp_block ?_
      | refine Wp_skip ?_
      | refine Wp_exit ?_
      | refine Wp_ret ?_
    refine Wp_cond rfl (fun hc => ?_) (fun hc => ?_)
    · simp [right_raw (Nat.le_trans ha (by decide)), right_raw (Nat.le_trans hb (by decide))] at hc
    · repeat first
        | refine Wp_seq ?_
        | refine Wp_region tm_mixed ?_
        | refine AW_move rfl rfl ?_
        | refine AW_assign rfl rfl ?_
        | refine AW_load rfl ty_num rfl rfl rfl rfl ?_
        | refine AW_store ty_num rfl rfl rfl rfl rfl rfl rfl ?_
        | refine AW_extract rfl rfl rfl ?_
        | refine AW_alloc rfl tz_num ?_
        | refine AW_box rfl rfl (row := true) rfl (fun h => by cases h) rfl ?_
        | refine AW_not rfl rfl ?_
        | refine AW_build rfl tb_num rfl ?_
        | refine AW_call rfl rfl (by first | exact ct_right _ (Nat.le_of_ble_eq_true rfl) | exact ct_gzeroT _ (by assumption) | exact ct_gzeroF _ (by assumption) | exact ct_gsize _ (by assumption) | exact ct_run _ _ _ ha hb) ?_
        | refine AW_ints rfl tu_nums ti_num ti_size ti_zero rfl rfl rfl (by first | exact .cons _ _ _ _ _ rfl (.cons _ _ _ _ _ rfl (.nil _)) | exact .cons _ _ _ _ _ rfl (.cons _ _ _ _ _ rfl (.cons _ _ _ _ _ rfl (.cons _ _ _ _ _ rfl (.nil _)))) | exact .cons _ _ _ _ _ rfl (.cons _ _ _ _ _ rfl (.cons _ _ _ _ _ rfl (.nil _))) | exact .cons _ _ _ _ _ rfl (.cons _ _ _ _ _ rfl (.cons _ _ _ _ _ rfl (.cons _ _ _ _ _ rfl (.cons _ _ _ _ _ rfl (.nil _)))))) ?_
        | refine AW_field rfl tf_row0 rfl rfl rfl ?_
        | refine AW_pickT rfl rfl rfl ?_
        | refine AW_pickF rfl rfl rfl ?_
        | refine AW_skip rfl rfl rfl rfl ?_
        | refine AW_pickTg rfl rfl rfl rfl rfl rfl ?_
        | refine AW_pickFg rfl rfl rfl rfl rfl rfl ?_
        | refine AW_moveg rfl rfl rfl rfl rfl ?_
        | refine AW_notg rfl rfl rfl rfl rfl ?_
        | refine AW_eqg rfl rfl rfl rfl rfl rfl ?_
        | refine AW_eq rfl rfl rfl ?_
        | refine AW_loadg rfl rfl rfl rfl ty_num rfl rfl rfl rfl ?_
        | refine AW_callg rfl rfl rfl rfl rfl (by first | exact ct_right _ (Nat.le_of_ble_eq_true rfl) | exact ct_gzeroT _ (by assumption) | exact ct_gzeroF _ (by assumption) | exact ct_gsize _ (by assumption) | exact ct_run _ _ _ ha hb) ?_
        | refine AW_nil (fun (h : false = true) => by cases h) ?_
        | refine AW_nil (fun (_ : true = true) => by kernel_rfl) ?_
        | refine Wp_block ?_
        | refine Wp_skip ?_
        | refine Wp_exit ?_
        | refine Wp_ret ?_
      refine Wp_condT rfl ?_
      repeat first
        | refine Wp_seq ?_
        | refine Wp_region tm_mixed ?_
        | refine AW_move rfl rfl ?_
        | refine AW_assign rfl rfl ?_
        | refine AW_load rfl ty_num rfl rfl rfl rfl ?_
        | refine AW_store ty_num rfl rfl rfl rfl rfl rfl rfl ?_
        | refine AW_extract rfl rfl rfl ?_
        | refine AW_alloc rfl tz_num ?_
        | refine AW_box rfl rfl (row := true) rfl (fun h => by cases h) rfl ?_
        | refine AW_not rfl rfl ?_
        | refine AW_build rfl tb_num rfl ?_
        | refine AW_call rfl rfl (by first | exact ct_right _ (Nat.le_of_ble_eq_true rfl) | exact ct_gzeroT _ (by assumption) | exact ct_gzeroF _ (by assumption) | exact ct_gsize _ (by assumption) | exact ct_run _ _ _ ha hb) ?_
        | refine AW_ints rfl tu_nums ti_num ti_size ti_zero rfl rfl rfl (by first | exact .cons _ _ _ _ _ rfl (.cons _ _ _ _ _ rfl (.nil _)) | exact .cons _ _ _ _ _ rfl (.cons _ _ _ _ _ rfl (.cons _ _ _ _ _ rfl (.cons _ _ _ _ _ rfl (.nil _)))) | exact .cons _ _ _ _ _ rfl (.cons _ _ _ _ _ rfl (.cons _ _ _ _ _ rfl (.nil _))) | exact .cons _ _ _ _ _ rfl (.cons _ _ _ _ _ rfl (.cons _ _ _ _ _ rfl (.cons _ _ _ _ _ rfl (.cons _ _ _ _ _ rfl (.nil _)))))) ?_
        | refine AW_field rfl tf_row0 rfl rfl rfl ?_
        | refine AW_pickT rfl rfl rfl ?_
        | refine AW_pickF rfl rfl rfl ?_
        | refine AW_skip rfl rfl rfl rfl ?_
        | refine AW_pickTg rfl rfl rfl rfl rfl rfl ?_
        | refine AW_pickFg rfl rfl rfl rfl rfl rfl ?_
        | refine AW_moveg rfl rfl rfl rfl rfl ?_
        | refine AW_notg rfl rfl rfl rfl rfl ?_
        | refine AW_eqg rfl rfl rfl rfl rfl rfl ?_
        | refine AW_eq rfl rfl rfl ?_
        | refine AW_loadg rfl rfl rfl rfl ty_num rfl rfl rfl rfl ?_
        | refine AW_callg rfl rfl rfl rfl rfl (by first | exact ct_right _ (Nat.le_of_ble_eq_true rfl) | exact ct_gzeroT _ (by assumption) | exact ct_gzeroF _ (by assumption) | exact ct_gsize _ (by assumption) | exact ct_run _ _ _ ha hb) ?_
        | refine AW_nil (fun (h : false = true) => by cases h) ?_
        | refine AW_nil (fun (_ : true = true) => by kernel_rfl) ?_
        | refine Wp_block ?_
        | refine Wp_skip ?_
        | refine Wp_exit ?_
        | refine Wp_ret ?_
      exact ⟨.inr rfl, _, .cell _ _ _ _ _ _ _ _ _ _ _ ty_num rfl rfl rfl (.tmp _ _ _ _ rfl .nil), rfl⟩
  · by_cases h1 : b = 0
    · have hR : lcmR a b = (false, []) := by unfold lcmR; rw [if_pos (.inr h1)]
      rw [hR]
      repeat first
        | refine Wp_seq ?_
        | refine Wp_region tm_mixed ?_
        | refine AW_move rfl rfl ?_
        | refine AW_assign rfl rfl ?_
        | refine AW_load rfl ty_num rfl rfl rfl rfl ?_
        | refine AW_store ty_num rfl rfl rfl rfl rfl rfl rfl ?_
        | refine AW_extract rfl rfl rfl ?_
        | refine AW_alloc rfl tz_num ?_
        | refine AW_box rfl rfl (row := true) rfl (fun h => by cases h) rfl ?_
        | refine AW_not rfl rfl ?_
        | refine AW_build rfl tb_num rfl ?_
        | refine AW_call rfl rfl (by first | exact ct_right _ (Nat.le_of_ble_eq_true rfl) | exact ct_gzeroT _ (by assumption) | exact ct_gzeroF _ (by assumption) | exact ct_gsize _ (by assumption) | exact ct_run _ _ _ ha hb) ?_
        | refine AW_ints rfl tu_nums ti_num ti_size ti_zero rfl rfl rfl (by first | exact .cons _ _ _ _ _ rfl (.cons _ _ _ _ _ rfl (.nil _)) | exact .cons _ _ _ _ _ rfl (.cons _ _ _ _ _ rfl (.cons _ _ _ _ _ rfl (.cons _ _ _ _ _ rfl (.nil _)))) | exact .cons _ _ _ _ _ rfl (.cons _ _ _ _ _ rfl (.cons _ _ _ _ _ rfl (.nil _))) | exact .cons _ _ _ _ _ rfl (.cons _ _ _ _ _ rfl (.cons _ _ _ _ _ rfl (.cons _ _ _ _ _ rfl (.cons _ _ _ _ _ rfl (.nil _)))))) ?_
        | refine AW_field rfl tf_row0 rfl rfl rfl ?_
        | refine AW_pickT rfl rfl rfl ?_
        | refine AW_pickF rfl rfl rfl ?_
        | refine AW_skip rfl rfl rfl rfl ?_
        | refine AW_pickTg rfl rfl rfl rfl rfl rfl ?_
        | refine AW_pickFg rfl rfl rfl rfl rfl rfl ?_
        | refine AW_moveg rfl rfl rfl rfl rfl ?_
        | refine AW_notg rfl rfl rfl rfl rfl ?_
        | refine AW_eqg rfl rfl rfl rfl rfl rfl ?_
        | refine AW_eq rfl rfl rfl ?_
        | refine AW_loadg rfl rfl rfl rfl ty_num rfl rfl rfl rfl ?_
        | refine AW_callg rfl rfl rfl rfl rfl (by first | exact ct_right _ (Nat.le_of_ble_eq_true rfl) | exact ct_gzeroT _ (by assumption) | exact ct_gzeroF _ (by assumption) | exact ct_gsize _ (by assumption) | exact ct_run _ _ _ ha hb) ?_
        | refine AW_nil (fun (h : false = true) => by cases h) ?_
        | refine AW_nil (fun (_ : true = true) => by kernel_rfl) ?_
        | refine Wp_block ?_
        | refine Wp_skip ?_
        | refine Wp_exit ?_
        | refine Wp_ret ?_
      refine Wp_cond rfl (fun hc => ?_) (fun hc => ?_)
      · simp [right_raw (Nat.le_trans ha (by decide)), right_raw (Nat.le_trans hb (by decide))] at hc
      · repeat first
          | refine Wp_seq ?_
          | refine Wp_region tm_mixed ?_
          | refine AW_move rfl rfl ?_
          | refine AW_assign rfl rfl ?_
          | refine AW_load rfl ty_num rfl rfl rfl rfl ?_
          | refine AW_store ty_num rfl rfl rfl rfl rfl rfl rfl ?_
          | refine AW_extract rfl rfl rfl ?_
          | refine AW_alloc rfl tz_num ?_
          | refine AW_box rfl rfl (row := true) rfl (fun h => by cases h) rfl ?_
          | refine AW_not rfl rfl ?_
          | refine AW_build rfl tb_num rfl ?_
          | refine AW_call rfl rfl (by first | exact ct_right _ (Nat.le_of_ble_eq_true rfl) | exact ct_gzeroT _ (by assumption) | exact ct_gzeroF _ (by assumption) | exact ct_gsize _ (by assumption) | exact ct_run _ _ _ ha hb) ?_
          | refine AW_ints rfl tu_nums ti_num ti_size ti_zero rfl rfl rfl (by first | exact .cons _ _ _ _ _ rfl (.cons _ _ _ _ _ rfl (.nil _)) | exact .cons _ _ _ _ _ rfl (.cons _ _ _ _ _ rfl (.cons _ _ _ _ _ rfl (.cons _ _ _ _ _ rfl (.nil _)))) | exact .cons _ _ _ _ _ rfl (.cons _ _ _ _ _ rfl (.cons _ _ _ _ _ rfl (.nil _))) | exact .cons _ _ _ _ _ rfl (.cons _ _ _ _ _ rfl (.cons _ _ _ _ _ rfl (.cons _ _ _ _ _ rfl (.cons _ _ _ _ _ rfl (.nil _)))))) ?_
          | refine AW_field rfl tf_row0 rfl rfl rfl ?_
          | refine AW_pickT rfl rfl rfl ?_
          | refine AW_pickF rfl rfl rfl ?_
          | refine AW_skip rfl rfl rfl rfl ?_
          | refine AW_pickTg rfl rfl rfl rfl rfl rfl ?_
          | refine AW_pickFg rfl rfl rfl rfl rfl rfl ?_
          | refine AW_moveg rfl rfl rfl rfl rfl ?_
          | refine AW_notg rfl rfl rfl rfl rfl ?_
          | refine AW_eqg rfl rfl rfl rfl rfl rfl ?_
          | refine AW_eq rfl rfl rfl ?_
          | refine AW_loadg rfl rfl rfl rfl ty_num rfl rfl rfl rfl ?_
          | refine AW_callg rfl rfl rfl rfl rfl (by first | exact ct_right _ (Nat.le_of_ble_eq_true rfl) | exact ct_gzeroT _ (by assumption) | exact ct_gzeroF _ (by assumption) | exact ct_gsize _ (by assumption) | exact ct_run _ _ _ ha hb) ?_
          | refine AW_nil (fun (h : false = true) => by cases h) ?_
          | refine AW_nil (fun (_ : true = true) => by kernel_rfl) ?_
          | refine Wp_block ?_
          | refine Wp_skip ?_
          | refine Wp_exit ?_
          | refine Wp_ret ?_
        refine Wp_condT rfl ?_
        repeat first
          | refine Wp_seq ?_
          | refine Wp_region tm_mixed ?_
          | refine AW_move rfl rfl ?_
          | refine AW_assign rfl rfl ?_
          | refine AW_load rfl ty_num rfl rfl rfl rfl ?_
          | refine AW_store ty_num rfl rfl rfl rfl rfl rfl rfl ?_
          | refine AW_extract rfl rfl rfl ?_
          | refine AW_alloc rfl tz_num ?_
          | refine AW_box rfl rfl (row := true) rfl (fun h => by cases h) rfl ?_
          | refine AW_not rfl rfl ?_
          | refine AW_build rfl tb_num rfl ?_
          | refine AW_call rfl rfl (by first | exact ct_right _ (Nat.le_of_ble_eq_true rfl) | exact ct_gzeroT _ (by assumption) | exact ct_gzeroF _ (by assumption) | exact ct_gsize _ (by assumption) | exact ct_run _ _ _ ha hb) ?_
          | refine AW_ints rfl tu_nums ti_num ti_size ti_zero rfl rfl rfl (by first | exact .cons _ _ _ _ _ rfl (.cons _ _ _ _ _ rfl (.nil _)) | exact .cons _ _ _ _ _ rfl (.cons _ _ _ _ _ rfl (.cons _ _ _ _ _ rfl (.cons _ _ _ _ _ rfl (.nil _)))) | exact .cons _ _ _ _ _ rfl (.cons _ _ _ _ _ rfl (.cons _ _ _ _ _ rfl (.nil _))) | exact .cons _ _ _ _ _ rfl (.cons _ _ _ _ _ rfl (.cons _ _ _ _ _ rfl (.cons _ _ _ _ _ rfl (.cons _ _ _ _ _ rfl (.nil _)))))) ?_
          | refine AW_field rfl tf_row0 rfl rfl rfl ?_
          | refine AW_pickT rfl rfl rfl ?_
          | refine AW_pickF rfl rfl rfl ?_
          | refine AW_skip rfl rfl rfl rfl ?_
          | refine AW_pickTg rfl rfl rfl rfl rfl rfl ?_
          | refine AW_pickFg rfl rfl rfl rfl rfl rfl ?_
          | refine AW_moveg rfl rfl rfl rfl rfl ?_
          | refine AW_notg rfl rfl rfl rfl rfl ?_
          | refine AW_eqg rfl rfl rfl rfl rfl rfl ?_
          | refine AW_eq rfl rfl rfl ?_
          | refine AW_loadg rfl rfl rfl rfl ty_num rfl rfl rfl rfl ?_
          | refine AW_callg rfl rfl rfl rfl rfl (by first | exact ct_right _ (Nat.le_of_ble_eq_true rfl) | exact ct_gzeroT _ (by assumption) | exact ct_gzeroF _ (by assumption) | exact ct_gsize _ (by assumption) | exact ct_run _ _ _ ha hb) ?_
          | refine AW_nil (fun (h : false = true) => by cases h) ?_
          | refine AW_nil (fun (_ : true = true) => by kernel_rfl) ?_
          | refine Wp_block ?_
          | refine Wp_skip ?_
          | refine Wp_exit ?_
          | refine Wp_ret ?_
        exact ⟨.inr rfl, _, .cell _ _ _ _ _ _ _ _ _ _ _ ty_num rfl rfl rfl (.tmp _ _ _ _ rfl .nil), rfl⟩
    · have hR : lcmR a b = rawOf (lcmZ a b) := by unfold lcmR; rw [if_neg (by simp [h0, h1])]
      rw [hR]
      have k1 : lc (b.natAbs : Int).natAbs ≤ 1200 := by rw [Int.natAbs_natCast]; omega
      have k2 : lc (((eucR false a.natAbs b.natAbs).1 : Int)).natAbs ≤ 1200 := by rw [eucR_gcd, Int.natAbs_natCast]; exact Nat.le_trans (gcd_small ha hb) (by decide)
      have k3 : ((eucR false a.natAbs b.natAbs).1 : Int) ≠ 0 := by rw [eucR_gcd]; have := Nat.gcd_pos_of_pos_left b.natAbs (show 0 < a.natAbs by omega); omega
      have k4 : (b.natAbs : Int).tmod ((eucR false a.natAbs b.natAbs).1 : Int) = 0 := by
        rw [eucR_gcd]
        show ((b.natAbs % Nat.gcd a.natAbs b.natAbs : Nat) : Int) = 0
        rw [Nat.mod_eq_zero_of_dvd (Nat.gcd_dvd_right _ _)]; rfl
      have kE := ct_Exact0 _ _ k1 k2 k3 k4
      have e5 : (b.natAbs : Int).tdiv ((eucR false a.natAbs b.natAbs).1 : Int) = ((b.natAbs / Nat.gcd a.natAbs b.natAbs : Nat) : Int) := by rw [eucR_gcd]; rfl
      rw [e5] at kE
      have kM := ct_Mul0 (a.natAbs : Int) ((b.natAbs / Nat.gcd a.natAbs b.natAbs : Nat) : Int) (by rw [Int.natAbs_natCast]; omega) (by rw [Int.natAbs_natCast]; exact Nat.le_trans (lc_mono (Nat.div_le_self _ _)) (by omega)) (by
        rw [Int.natAbs_natCast, Int.natAbs_natCast]; have := lc_mono (Nat.div_le_self b.natAbs (Nat.gcd a.natAbs b.natAbs)); omega)
      repeat first
        | refine Wp_seq ?_
        | refine Wp_region tm_mixed ?_
        | refine AW_move rfl rfl ?_
        | refine AW_assign rfl rfl ?_
        | refine AW_load rfl ty_num rfl rfl rfl rfl ?_
        | refine AW_store ty_num rfl rfl rfl rfl rfl rfl rfl ?_
        | refine AW_extract rfl rfl rfl ?_
        | refine AW_alloc rfl tz_num ?_
        | refine AW_box rfl rfl (row := true) rfl (fun h => by cases h) rfl ?_
        | refine AW_not rfl rfl ?_
        | refine AW_build rfl tb_num rfl ?_
        | refine AW_call rfl rfl (by first | exact ct_right _ (Nat.le_of_ble_eq_true rfl) | exact ct_gzeroT _ (by assumption) | exact ct_gzeroF _ (by assumption) | exact ct_gsize _ (by assumption) | exact ct_run _ _ _ ha hb | exact kE | exact kM) ?_
        | refine AW_ints rfl tu_nums ti_num ti_size ti_zero rfl rfl rfl (by first | exact .cons _ _ _ _ _ rfl (.cons _ _ _ _ _ rfl (.nil _)) | exact .cons _ _ _ _ _ rfl (.cons _ _ _ _ _ rfl (.cons _ _ _ _ _ rfl (.cons _ _ _ _ _ rfl (.nil _)))) | exact .cons _ _ _ _ _ rfl (.cons _ _ _ _ _ rfl (.cons _ _ _ _ _ rfl (.nil _))) | exact .cons _ _ _ _ _ rfl (.cons _ _ _ _ _ rfl (.cons _ _ _ _ _ rfl (.cons _ _ _ _ _ rfl (.cons _ _ _ _ _ rfl (.nil _)))))) ?_
        | refine AW_field rfl tf_row0 rfl rfl rfl ?_
        | refine AW_pickT rfl rfl rfl ?_
        | refine AW_pickF rfl rfl rfl ?_
        | refine AW_skip rfl rfl rfl rfl ?_
        | refine AW_pickTg rfl rfl rfl rfl rfl rfl ?_
        | refine AW_pickFg rfl rfl rfl rfl rfl rfl ?_
        | refine AW_moveg rfl rfl rfl rfl rfl ?_
        | refine AW_notg rfl rfl rfl rfl rfl ?_
        | refine AW_eqg rfl rfl rfl rfl rfl rfl ?_
        | refine AW_eq rfl rfl rfl ?_
        | refine AW_loadg rfl rfl rfl rfl ty_num rfl rfl rfl rfl ?_
        | refine AW_callg rfl rfl rfl rfl rfl (by first | exact ct_right _ (Nat.le_of_ble_eq_true rfl) | exact ct_gzeroT _ (by assumption) | exact ct_gzeroF _ (by assumption) | exact ct_gsize _ (by assumption) | exact ct_run _ _ _ ha hb | exact kE | exact kM) ?_
        | refine AW_nil (fun (h : false = true) => by cases h) ?_
        | refine AW_nil (fun (_ : true = true) => by kernel_rfl) ?_
        | refine Wp_block ?_
        | refine Wp_skip ?_
        | refine Wp_exit ?_
        | refine Wp_ret ?_
      refine Wp_cond rfl (fun hc => ?_) (fun hc => ?_)
      · simp [right_raw (Nat.le_trans ha (by decide)), right_raw (Nat.le_trans hb (by decide))] at hc
      · repeat first
          | refine Wp_seq ?_
          | refine Wp_region tm_mixed ?_
          | refine AW_move rfl rfl ?_
          | refine AW_assign rfl rfl ?_
          | refine AW_load rfl ty_num rfl rfl rfl rfl ?_
          | refine AW_store ty_num rfl rfl rfl rfl rfl rfl rfl ?_
          | refine AW_extract rfl rfl rfl ?_
          | refine AW_alloc rfl tz_num ?_
          | refine AW_box rfl rfl (row := true) rfl (fun h => by cases h) rfl ?_
          | refine AW_not rfl rfl ?_
          | refine AW_build rfl tb_num rfl ?_
          | refine AW_call rfl rfl (by first | exact ct_right _ (Nat.le_of_ble_eq_true rfl) | exact ct_gzeroT _ (by assumption) | exact ct_gzeroF _ (by assumption) | exact ct_gsize _ (by assumption) | exact ct_run _ _ _ ha hb | exact kE | exact kM) ?_
          | refine AW_ints rfl tu_nums ti_num ti_size ti_zero rfl rfl rfl (by first | exact .cons _ _ _ _ _ rfl (.cons _ _ _ _ _ rfl (.nil _)) | exact .cons _ _ _ _ _ rfl (.cons _ _ _ _ _ rfl (.cons _ _ _ _ _ rfl (.cons _ _ _ _ _ rfl (.nil _)))) | exact .cons _ _ _ _ _ rfl (.cons _ _ _ _ _ rfl (.cons _ _ _ _ _ rfl (.nil _))) | exact .cons _ _ _ _ _ rfl (.cons _ _ _ _ _ rfl (.cons _ _ _ _ _ rfl (.cons _ _ _ _ _ rfl (.cons _ _ _ _ _ rfl (.nil _)))))) ?_
          | refine AW_field rfl tf_row0 rfl rfl rfl ?_
          | refine AW_pickT rfl rfl rfl ?_
          | refine AW_pickF rfl rfl rfl ?_
          | refine AW_skip rfl rfl rfl rfl ?_
          | refine AW_pickTg rfl rfl rfl rfl rfl rfl ?_
          | refine AW_pickFg rfl rfl rfl rfl rfl rfl ?_
          | refine AW_moveg rfl rfl rfl rfl rfl ?_
          | refine AW_notg rfl rfl rfl rfl rfl ?_
          | refine AW_eqg rfl rfl rfl rfl rfl rfl ?_
          | refine AW_eq rfl rfl rfl ?_
          | refine AW_loadg rfl rfl rfl rfl ty_num rfl rfl rfl rfl ?_
          | refine AW_callg rfl rfl rfl rfl rfl (by first | exact ct_right _ (Nat.le_of_ble_eq_true rfl) | exact ct_gzeroT _ (by assumption) | exact ct_gzeroF _ (by assumption) | exact ct_gsize _ (by assumption) | exact ct_run _ _ _ ha hb | exact kE | exact kM) ?_
          | refine AW_nil (fun (h : false = true) => by cases h) ?_
          | refine AW_nil (fun (_ : true = true) => by kernel_rfl) ?_
          | refine Wp_block ?_
          | refine Wp_skip ?_
          | refine Wp_exit ?_
          | refine Wp_ret ?_
        refine Wp_condF rfl ?_
        repeat first
          | refine Wp_seq ?_
          | refine Wp_region tm_mixed ?_
          | refine AW_move rfl rfl ?_
          | refine AW_assign rfl rfl ?_
          | refine AW_load rfl ty_num rfl rfl rfl rfl ?_
          | refine AW_store ty_num rfl rfl rfl rfl rfl rfl rfl ?_
          | refine AW_extract rfl rfl rfl ?_
          | refine AW_alloc rfl tz_num ?_
          | refine AW_box rfl rfl (row := true) rfl (fun h => by cases h) rfl ?_
          | refine AW_not rfl rfl ?_
          | refine AW_build rfl tb_num rfl ?_
          | refine AW_call rfl rfl (by first | exact ct_right _ (Nat.le_of_ble_eq_true rfl) | exact ct_gzeroT _ (by assumption) | exact ct_gzeroF _ (by assumption) | exact ct_gsize _ (by assumption) | exact ct_run _ _ _ ha hb | exact kE | exact kM) ?_
          | refine AW_ints rfl tu_nums ti_num ti_size ti_zero rfl rfl rfl (by first | exact .cons _ _ _ _ _ rfl (.cons _ _ _ _ _ rfl (.nil _)) | exact .cons _ _ _ _ _ rfl (.cons _ _ _ _ _ rfl (.cons _ _ _ _ _ rfl (.cons _ _ _ _ _ rfl (.nil _)))) | exact .cons _ _ _ _ _ rfl (.cons _ _ _ _ _ rfl (.cons _ _ _ _ _ rfl (.nil _))) | exact .cons _ _ _ _ _ rfl (.cons _ _ _ _ _ rfl (.cons _ _ _ _ _ rfl (.cons _ _ _ _ _ rfl (.cons _ _ _ _ _ rfl (.nil _)))))) ?_
          | refine AW_field rfl tf_row0 rfl rfl rfl ?_
          | refine AW_pickT rfl rfl rfl ?_
          | refine AW_pickF rfl rfl rfl ?_
          | refine AW_skip rfl rfl rfl rfl ?_
          | refine AW_pickTg rfl rfl rfl rfl rfl rfl ?_
          | refine AW_pickFg rfl rfl rfl rfl rfl rfl ?_
          | refine AW_moveg rfl rfl rfl rfl rfl ?_
          | refine AW_notg rfl rfl rfl rfl rfl ?_
          | refine AW_eqg rfl rfl rfl rfl rfl rfl ?_
          | refine AW_eq rfl rfl rfl ?_
          | refine AW_loadg rfl rfl rfl rfl ty_num rfl rfl rfl rfl ?_
          | refine AW_callg rfl rfl rfl rfl rfl (by first | exact ct_right _ (Nat.le_of_ble_eq_true rfl) | exact ct_gzeroT _ (by assumption) | exact ct_gzeroF _ (by assumption) | exact ct_gsize _ (by assumption) | exact ct_run _ _ _ ha hb | exact kE | exact kM) ?_
          | refine AW_nil (fun (h : false = true) => by cases h) ?_
          | refine AW_nil (fun (_ : true = true) => by kernel_rfl) ?_
          | refine Wp_block ?_
          | refine Wp_skip ?_
          | refine Wp_exit ?_
          | refine Wp_ret ?_
        exact ⟨.inr rfl, _, .cell _ _ _ _ _ _ _ _ _ _ _ ty_num rfl rfl rfl (.tmp _ _ _ _ rfl .nil), rfl⟩
end Go.Proofs.YtonbhpadoplpkaaGreat
