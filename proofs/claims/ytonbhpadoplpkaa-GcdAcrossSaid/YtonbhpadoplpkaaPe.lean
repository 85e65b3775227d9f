import Derived.Test.YtonbhpadoplpkaaPd
import Derived.Test.YtonbhpadoplpkaaProg
import Derived.WalkKit
import Derived.Laws.OwnMore
import Derived.Deep.Draws
import Derived.Deep.OwnRows
import Derived.Deep.LoopGhost
import Derived.Deep.QuietTactic
import Derived.BigQuiet
import Derived.Lib.Hide
import Derived.Maps.AppendAt
import Derived.Laws.Rows
import Derived.OneCell
import Derived.Shelf.Spec.BitsCarry
import Derived.Deep.DeepCutAuto
import Derived.Shelf.Small.Bits
import Derived.Shelf.Strconv.Itoa0
import Derived.Shelf.Bits.Mul64
import Derived.Ground.SlgnProg
import Derived.Shelf.SlicesE.Clone
import Derived.Lib.BitFns
import Derived.Deep.CutBlock
import Derived.BigRegion
import Derived.StillTailTactics
import Derived.Deep.AppendLies
import Derived.Orders
import Derived.Lib.SliceRun
import Derived.Deep.MidRow
import Derived.BigCall
import Derived.Great.BuildSlice
import Derived.Deep.RegionWith
import Derived.WalkMore
import Derived.Laws.EntriesVeiled
import Derived.Laws.CopyOwn
import Derived.Test.YtonbhpadoplpkaaRows
import Derived.ProofKit
import Derived.OpenShut
import Derived.Deep.SlicePairs
import Derived.WideKeyArgs
/- Of: Law20, Law20x, Row. -/
/- The law of layer 20, by the abstract machine: of, long, awake, GcdTells. -/
namespace Go.Proofs.Ytonbhpadoplpkaa
open Go.RowKit Go.Deep
set_option maxRecDepth 100000 in
theorem ct_law20of (n : Int) (h1 : -9223372036854775808 ≤ n) (h2 : n < 9223372036854775808) : Ct Try.prog 29 [.val (aI n)] (aZ n) := by
  refine ct_of_wp [.cell 2 24] [(0, .val (aI n))] 5 Try.func29 rfl rfl rfl rfl rfl rfl rfl rfl ?_
  intro G0 w0
  have k1 := ct_IntOf n h1 h2
  repeat first
    | refine Wp_seq ?_
    | refine Wp_region tm_mixed ?_
    | refine AW_move rfl rfl ?_
    | refine AW_assign rfl rfl ?_
    | refine AW_load rfl ty_num rfl rfl rfl rfl ?_
    | refine AW_store ty_num rfl rfl rfl rfl rfl rfl rfl ?_
    | refine AW_extract rfl rfl rfl ?_
    | refine AW_alloc rfl tz_num ?_
    | refine AW_box rfl rfl (row := true) rfl (fun h => by cases h) rfl ?_
    | refine AW_not rfl rfl ?_
    | refine AW_build rfl tb_num rfl ?_
    | refine AW_call rfl rfl (by first | exact k1) ?_
    | refine AW_ints rfl tu_nums ti_num ti_size ti_zero rfl rfl rfl (by first | exact .cons _ _ _ _ _ rfl (.cons _ _ _ _ _ rfl (.nil _)) | exact .cons _ _ _ _ _ rfl (.cons _ _ _ _ _ rfl (.cons _ _ _ _ _ rfl (.cons _ _ _ _ _ rfl (.nil _)))) | exact .cons _ _ _ _ _ rfl (.cons _ _ _ _ _ rfl (.cons _ _ _ _ _ rfl (.nil _))) | exact .cons _ _ _ _ _ rfl (.cons _ _ _ _ _ rfl (.cons _ _ _ _ _ rfl (.cons _ _ _ _ _ rfl (.cons _ _ _ _ _ rfl (.nil _)))))) ?_
    | refine AW_fieldAddr rfl tf_neg rfl rfl ?_ | refine AW_fieldAddr rfl tf_mag rfl rfl ?_ | refine AW_load rfl ty_bool rfl rfl rfl rfl ?_ | refine AW_load rfl ty_mag rfl rfl rfl rfl ?_ | refine AW_beq rfl Try.underlying4 rfl rfl ?_ | refine AW_bne rfl Try.underlying4 rfl rfl ?_ | refine AW_len rfl rfl Try.underlying22 ?_ | refine AW_ge rfl rfl rfl ?_ | refine AW_gt rfl rfl rfl ?_
    | refine AW_pickT rfl rfl rfl ?_
    | refine AW_pickF rfl rfl rfl ?_
    | refine AW_skip rfl rfl rfl rfl ?_
    | refine AW_pickTg rfl rfl rfl rfl rfl rfl ?_
    | refine AW_pickFg rfl rfl rfl rfl rfl rfl ?_
    | refine AW_moveg rfl rfl rfl rfl rfl ?_
    | refine AW_notg rfl rfl rfl rfl rfl ?_
    | refine AW_eqg rfl rfl rfl rfl rfl rfl ?_
    | refine AW_eq rfl rfl rfl ?_
    | refine AW_loadg rfl rfl rfl rfl ty_num rfl rfl rfl rfl ?_
    | refine AW_callg rfl rfl rfl rfl rfl (by first | exact k1) ?_
    | refine AW_nil (fun (h : false = true) => by cases h) ?_
    | refine AW_nil (fun (_ : true = true) => by kernel_rfl) ?_
    | refine Wp_block ?_
    | refine Wp_skip ?_
    | refine Wp_exit ?_
    | refine Wp_ret ?_
  exact ⟨.inr rfl, _, .cell _ _ _ _ _ _ _ _ _ _ _ ty_num rfl rfl rfl .nil, rfl⟩
theorem lc_one {x : Int} (h : x.natAbs < W64) : lc x.natAbs ≤ 1 := lc_le.2 (by rw [Nat.pow_one]; exact h)
theorem lc_few {x : Int} (h : x.natAbs ≤ 1000000) : lc x.natAbs ≤ 90 := Nat.le_trans (lc_one (by rw [W64_eq]; omega)) (by omega)
def long16 (xs : List Raw) : Bool := xs.any fun x => decide ((16 : Int) < (x.2.length : Int))
theorem long16_take {xs : List Raw} {k : Nat} {x : Raw} (hx : xs[k]? = some x) : long16 (xs.take (k + 1)) = (long16 (xs.take k) || decide ((16 : Int) < (x.2.length : Int))) := by
  have hk := (List.getElem?_eq_some_iff.1 hx)
  unfold long16
  rw [List.take_succ_eq_append_getElem hk.1, List.any_append, hk.2]; simp
set_option maxRecDepth 100000 in
theorem ct_law20long (xs : List Raw) (hl : xs.length ≤ 1000) : Ct Try.prog 27 [.val (.one (.st (polyP xs)))] (.val (aB (long16 xs))) := by
  refine ct_of_wp [.tmp 2] [(0, .val (.one (.st (polyP xs))))] 17 Try.func27 rfl rfl rfl rfl rfl rfl rfl rfl ?_
  intro G0 w0
  have k1 := ct_Right (false, [])
  repeat first
    | refine Wp_seq ?_
    | refine Wp_region tm_mixed ?_
    | refine AW_move rfl rfl ?_
    | refine AW_assign rfl rfl ?_
    | refine AW_load rfl ty_num rfl rfl rfl rfl ?_
    | refine AW_store ty_num rfl rfl rfl rfl rfl rfl rfl ?_
    | refine AW_extract rfl rfl rfl ?_
    | refine AW_alloc rfl tz_num ?_
    | refine AW_box rfl rfl (row := true) rfl (fun h => by cases h) rfl ?_
    | refine AW_not rfl rfl ?_
    | refine AW_build rfl tb_num rfl ?_
    | refine AW_call rfl rfl (by first | exact k1) ?_
    | refine AW_ints rfl tu_nums ti_num ti_size ti_zero rfl rfl rfl (by first | exact .cons _ _ _ _ _ rfl (.cons _ _ _ _ _ rfl (.nil _)) | exact .cons _ _ _ _ _ rfl (.cons _ _ _ _ _ rfl (.cons _ _ _ _ _ rfl (.cons _ _ _ _ _ rfl (.nil _)))) | exact .cons _ _ _ _ _ rfl (.cons _ _ _ _ _ rfl (.cons _ _ _ _ _ rfl (.nil _))) | exact .cons _ _ _ _ _ rfl (.cons _ _ _ _ _ rfl (.cons _ _ _ _ _ rfl (.cons _ _ _ _ _ rfl (.cons _ _ _ _ _ rfl (.nil _)))))) ?_
    | refine AW_fieldAddr rfl tf_neg rfl rfl ?_ | refine AW_fieldAddr rfl tf_mag rfl rfl ?_ | refine AW_load rfl ty_bool rfl rfl rfl rfl ?_ | refine AW_load rfl ty_mag rfl rfl rfl rfl ?_ | refine AW_beq rfl Try.underlying4 rfl rfl ?_ | refine AW_bne rfl Try.underlying4 rfl rfl ?_ | refine AW_len rfl rfl Try.underlying22 ?_ | refine AW_ge rfl rfl rfl ?_ | refine AW_gt rfl rfl rfl ?_
    | refine AW_pickT rfl rfl rfl ?_
    | refine AW_pickF rfl rfl rfl ?_
    | refine AW_skip rfl rfl rfl rfl ?_
    | refine AW_pickTg rfl rfl rfl rfl rfl rfl ?_
    | refine AW_pickFg rfl rfl rfl rfl rfl rfl ?_
    | refine AW_moveg rfl rfl rfl rfl rfl ?_
    | refine AW_notg rfl rfl rfl rfl rfl ?_
    | refine AW_eqg rfl rfl rfl rfl rfl rfl ?_
    | refine AW_eq rfl rfl rfl ?_
    | refine AW_loadg rfl rfl rfl rfl ty_num rfl rfl rfl rfl ?_
    | refine AW_callg rfl rfl rfl rfl rfl (by first | exact k1) ?_
    | refine AW_nil (fun (h : false = true) => by cases h) ?_
    | refine AW_nil (fun (_ : true = true) => by kernel_rfl) ?_
    | refine Wp_block ?_
    | refine Wp_skip ?_
    | refine Wp_exit ?_
    | refine Wp_ret ?_
  refine Wp_loop (fun k : Nat => ⟨[(0, .val (.one (.st (polyP xs)))), (3, .val (aI (k : Int)))], [], 0⟩) (fun k => k ≤ xs.length ∧ long16 (xs.take k) = false) (fun k => xs.length - k) 0 ⟨by omega, rfl⟩ (le_of ⟨rfl, rfl, trivial⟩ trivial rfl) ?_
  rintro k ⟨hk, hall⟩
  repeat first
    | refine Wp_seq ?_
    | refine Wp_region tm_mixed ?_
    | refine AW_move rfl rfl ?_
    | refine AW_assign rfl rfl ?_
    | refine AW_load rfl ty_num rfl rfl rfl rfl ?_
    | refine AW_store ty_num rfl rfl rfl rfl rfl rfl rfl ?_
    | refine AW_extract rfl rfl rfl ?_
    | refine AW_alloc rfl tz_num ?_
    | refine AW_box rfl rfl (row := true) rfl (fun h => by cases h) rfl ?_
    | refine AW_not rfl rfl ?_
    | refine AW_build rfl tb_num rfl ?_
    | refine AW_call rfl rfl (by first | exact k1) ?_
    | refine AW_ints rfl tu_nums ti_num ti_size ti_zero rfl rfl rfl (by first | exact .cons _ _ _ _ _ rfl (.cons _ _ _ _ _ rfl (.nil _)) | exact .cons _ _ _ _ _ rfl (.cons _ _ _ _ _ rfl (.cons _ _ _ _ _ rfl (.cons _ _ _ _ _ rfl (.nil _)))) | exact .cons _ _ _ _ _ rfl (.cons _ _ _ _ _ rfl (.cons _ _ _ _ _ rfl (.nil _))) | exact .cons _ _ _ _ _ rfl (.cons _ _ _ _ _ rfl (.cons _ _ _ _ _ rfl (.cons _ _ _ _ _ rfl (.cons _ _ _ _ _ rfl (.nil _)))))) ?_
    | refine AW_fieldAddr rfl tf_neg rfl rfl ?_ | refine AW_fieldAddr rfl tf_mag rfl rfl ?_ | refine AW_load rfl ty_bool rfl rfl rfl rfl ?_ | refine AW_load rfl ty_mag rfl rfl rfl rfl ?_ | refine AW_beq rfl Try.underlying4 rfl rfl ?_ | refine AW_bne rfl Try.underlying4 rfl rfl ?_ | refine AW_len rfl rfl Try.underlying22 ?_ | refine AW_ge rfl rfl rfl ?_ | refine AW_gt rfl rfl rfl ?_ | refine AW_lenPoly rfl rfl tu_nums ?_ | refine AW_lt rfl rfl rfl ?_
    | refine AW_pickT rfl rfl rfl ?_
    | refine AW_pickF rfl rfl rfl ?_
    | refine AW_skip rfl rfl rfl rfl ?_
    | refine AW_pickTg rfl rfl rfl rfl rfl rfl ?_
    | refine AW_pickFg rfl rfl rfl rfl rfl rfl ?_
    | refine AW_moveg rfl rfl rfl rfl rfl ?_
    | refine AW_notg rfl rfl rfl rfl rfl ?_
    | refine AW_eqg rfl rfl rfl rfl rfl rfl ?_
    | refine AW_eq rfl rfl rfl ?_
    | refine AW_loadg rfl rfl rfl rfl ty_num rfl rfl rfl rfl ?_
    | refine AW_callg rfl rfl rfl rfl rfl (by first | exact k1) ?_
    | refine AW_nil (fun (h : false = true) => by cases h) ?_
    | refine AW_nil (fun (_ : true = true) => by kernel_rfl) ?_
    | refine Wp_block ?_
    | refine Wp_skip ?_
    | refine Wp_exit ?_
    | refine Wp_ret ?_
  refine Wp_cond rfl (fun hc => ?_) (fun hc => ?_)
  · have hlt : k < xs.length := by simpa using hc
    obtain ⟨x, hx⟩ : ∃ x, xs[k]? = some x := ⟨_, List.getElem?_eq_getElem hlt⟩
    repeat first
      | refine Wp_seq ?_
      | refine Wp_region tm_mixed ?_
      | refine AW_move rfl rfl ?_
      | refine AW_assign rfl rfl ?_
      | refine AW_load rfl ty_num rfl rfl rfl rfl ?_
      | refine AW_store ty_num rfl rfl rfl rfl rfl rfl rfl ?_
      | refine AW_extract rfl rfl rfl ?_
      | refine AW_alloc rfl tz_num ?_
      | refine AW_box rfl rfl (row := true) rfl (fun h => by cases h) rfl ?_
      | refine AW_not rfl rfl ?_
      | refine AW_build rfl tb_num rfl ?_
      | refine AW_call rfl rfl (by first | exact k1) ?_
      | refine AW_ints rfl tu_nums ti_num ti_size ti_zero rfl rfl rfl (by first | exact .cons _ _ _ _ _ rfl (.cons _ _ _ _ _ rfl (.nil _)) | exact .cons _ _ _ _ _ rfl (.cons _ _ _ _ _ rfl (.cons _ _ _ _ _ rfl (.cons _ _ _ _ _ rfl (.nil _)))) | exact .cons _ _ _ _ _ rfl (.cons _ _ _ _ _ rfl (.cons _ _ _ _ _ rfl (.nil _))) | exact .cons _ _ _ _ _ rfl (.cons _ _ _ _ _ rfl (.cons _ _ _ _ _ rfl (.cons _ _ _ _ _ rfl (.cons _ _ _ _ _ rfl (.nil _)))))) ?_
      | refine AW_fieldAddr rfl tf_neg rfl rfl ?_ | refine AW_fieldAddr rfl tf_mag rfl rfl ?_ | refine AW_load rfl ty_bool rfl rfl rfl rfl ?_ | refine AW_load rfl ty_mag rfl rfl rfl rfl ?_ | refine AW_beq rfl Try.underlying4 rfl rfl ?_ | refine AW_bne rfl Try.underlying4 rfl rfl ?_ | refine AW_len rfl rfl Try.underlying22 ?_ | refine AW_ge rfl rfl rfl ?_ | refine AW_gt rfl rfl rfl ?_ | refine AW_polyAt rfl tu_nums ts_num rfl rfl hx ?_ | refine AW_recMag rfl Try.underlying24 rfl rfl (by kernel_rfl) rfl ?_ | refine AW_slot rfl ty_mag rfl ?_
      | refine AW_pickT rfl rfl rfl ?_
      | refine AW_pickF rfl rfl rfl ?_
      | refine AW_skip rfl rfl rfl rfl ?_
      | refine AW_pickTg rfl rfl rfl rfl rfl rfl ?_
      | refine AW_pickFg rfl rfl rfl rfl rfl rfl ?_
      | refine AW_moveg rfl rfl rfl rfl rfl ?_
      | refine AW_notg rfl rfl rfl rfl rfl ?_
      | refine AW_eqg rfl rfl rfl rfl rfl rfl ?_
      | refine AW_eq rfl rfl rfl ?_
      | refine AW_loadg rfl rfl rfl rfl ty_num rfl rfl rfl rfl ?_
      | refine AW_callg rfl rfl rfl rfl rfl (by first | exact k1) ?_
      | refine AW_nil (fun (h : false = true) => by cases h) ?_
      | refine AW_nil (fun (_ : true = true) => by kernel_rfl) ?_
      | refine Wp_block ?_
      | refine Wp_skip ?_
      | refine Wp_exit ?_
      | refine Wp_ret ?_
    refine Wp_cond rfl (fun hd => ?_) (fun hd => ?_)
    · repeat first
        | refine Wp_seq ?_
        | refine Wp_region tm_mixed ?_
        | refine AW_move rfl rfl ?_
        | refine AW_assign rfl rfl ?_
        | refine AW_load rfl ty_num rfl rfl rfl rfl ?_
        | refine AW_store ty_num rfl rfl rfl rfl rfl rfl rfl ?_
        | refine AW_extract rfl rfl rfl ?_
        | refine AW_alloc rfl tz_num ?_
        | refine AW_box rfl rfl (row := true) rfl (fun h => by cases h) rfl ?_
        | refine AW_not rfl rfl ?_
        | refine AW_build rfl tb_num rfl ?_
        | refine AW_call rfl rfl (by first | exact k1) ?_
        | refine AW_ints rfl tu_nums ti_num ti_size ti_zero rfl rfl rfl (by first | exact .cons _ _ _ _ _ rfl (.cons _ _ _ _ _ rfl (.nil _)) | exact .cons _ _ _ _ _ rfl (.cons _ _ _ _ _ rfl (.cons _ _ _ _ _ rfl (.cons _ _ _ _ _ rfl (.nil _)))) | exact .cons _ _ _ _ _ rfl (.cons _ _ _ _ _ rfl (.cons _ _ _ _ _ rfl (.nil _))) | exact .cons _ _ _ _ _ rfl (.cons _ _ _ _ _ rfl (.cons _ _ _ _ _ rfl (.cons _ _ _ _ _ rfl (.cons _ _ _ _ _ rfl (.nil _)))))) ?_
        | refine AW_fieldAddr rfl tf_neg rfl rfl ?_ | refine AW_fieldAddr rfl tf_mag rfl rfl ?_ | refine AW_load rfl ty_bool rfl rfl rfl rfl ?_ | refine AW_load rfl ty_mag rfl rfl rfl rfl ?_ | refine AW_beq rfl Try.underlying4 rfl rfl ?_ | refine AW_bne rfl Try.underlying4 rfl rfl ?_ | refine AW_len rfl rfl Try.underlying22 ?_ | refine AW_ge rfl rfl rfl ?_ | refine AW_gt rfl rfl rfl ?_
        | refine AW_pickT rfl rfl rfl ?_
        | refine AW_pickF rfl rfl rfl ?_
        | refine AW_skip rfl rfl rfl rfl ?_
        | refine AW_pickTg rfl rfl rfl rfl rfl rfl ?_
        | refine AW_pickFg rfl rfl rfl rfl rfl rfl ?_
        | refine AW_moveg rfl rfl rfl rfl rfl ?_
        | refine AW_notg rfl rfl rfl rfl rfl ?_
        | refine AW_eqg rfl rfl rfl rfl rfl rfl ?_
        | refine AW_eq rfl rfl rfl ?_
        | refine AW_loadg rfl rfl rfl rfl ty_num rfl rfl rfl rfl ?_
        | refine AW_callg rfl rfl rfl rfl rfl (by first | exact k1) ?_
        | refine AW_nil (fun (h : false = true) => by cases h) ?_
        | refine AW_nil (fun (_ : true = true) => by kernel_rfl) ?_
        | refine Wp_block ?_
        | refine Wp_skip ?_
        | refine Wp_exit ?_
        | refine Wp_ret ?_
      have e : long16 xs = true := by
        unfold long16
        rw [List.any_eq_true]
        exact ⟨x, List.mem_of_getElem? hx, hd⟩
      rw [e]
      exact ⟨.inr rfl, _, .tmp _ _ _ _ rfl .nil, rfl⟩
    · repeat first
        | refine Wp_seq ?_
        | refine Wp_region tm_mixed ?_
        | refine AW_move rfl rfl ?_
        | refine AW_assign rfl rfl ?_
        | refine AW_load rfl ty_num rfl rfl rfl rfl ?_
        | refine AW_store ty_num rfl rfl rfl rfl rfl rfl rfl ?_
        | refine AW_extract rfl rfl rfl ?_
        | refine AW_alloc rfl tz_num ?_
        | refine AW_box rfl rfl (row := true) rfl (fun h => by cases h) rfl ?_
        | refine AW_not rfl rfl ?_
        | refine AW_build rfl tb_num rfl ?_
        | refine AW_call rfl rfl (by first | exact k1) ?_
        | refine AW_ints rfl tu_nums ti_num ti_size ti_zero rfl rfl rfl (by first | exact .cons _ _ _ _ _ rfl (.cons _ _ _ _ _ rfl (.nil _)) | exact .cons _ _ _ _ _ rfl (.cons _ _ _ _ _ rfl (.cons _ _ _ _ _ rfl (.cons _ _ _ _ _ rfl (.nil _)))) | exact .cons _ _ _ _ _ rfl (.cons _ _ _ _ _ rfl (.cons _ _ _ _ _ rfl (.nil _))) | exact .cons _ _ _ _ _ rfl (.cons _ _ _ _ _ rfl (.cons _ _ _ _ _ rfl (.cons _ _ _ _ _ rfl (.cons _ _ _ _ _ rfl (.nil _)))))) ?_
        | refine AW_fieldAddr rfl tf_neg rfl rfl ?_ | refine AW_fieldAddr rfl tf_mag rfl rfl ?_ | refine AW_load rfl ty_bool rfl rfl rfl rfl ?_ | refine AW_load rfl ty_mag rfl rfl rfl rfl ?_ | refine AW_beq rfl Try.underlying4 rfl rfl ?_ | refine AW_bne rfl Try.underlying4 rfl rfl ?_ | refine AW_len rfl rfl Try.underlying22 ?_ | refine AW_ge rfl rfl rfl ?_ | refine AW_gt rfl rfl rfl ?_ | refine AW_add rfl rfl rfl ?_
        | refine AW_pickT rfl rfl rfl ?_
        | refine AW_pickF rfl rfl rfl ?_
        | refine AW_skip rfl rfl rfl rfl ?_
        | refine AW_pickTg rfl rfl rfl rfl rfl rfl ?_
        | refine AW_pickFg rfl rfl rfl rfl rfl rfl ?_
        | refine AW_moveg rfl rfl rfl rfl rfl ?_
        | refine AW_notg rfl rfl rfl rfl rfl ?_
        | refine AW_eqg rfl rfl rfl rfl rfl rfl ?_
        | refine AW_eq rfl rfl rfl ?_
        | refine AW_loadg rfl rfl rfl rfl ty_num rfl rfl rfl rfl ?_
        | refine AW_callg rfl rfl rfl rfl rfl (by first | exact k1) ?_
        | refine AW_nil (fun (h : false = true) => by cases h) ?_
        | refine AW_nil (fun (_ : true = true) => by kernel_rfl) ?_
        | refine Wp_block ?_
        | refine Wp_skip ?_
        | refine Wp_exit ?_
        | refine Wp_ret ?_
      refine ⟨k + 1, ⟨hlt, ?_⟩, le_of ⟨rfl, ?_, trivial⟩ trivial rfl, by omega⟩
      · rw [long16_take hx, hall, hd]; rfl
      · rw [← wrap_succ (by omega)]; rfl
  · have hge : k = xs.length := by have : ¬ k < xs.length := by simpa using hc
                                   omega
    repeat first
      | refine Wp_seq ?_
      | refine Wp_region tm_mixed ?_
      | refine AW_move rfl rfl ?_
      | refine AW_assign rfl rfl ?_
      | refine AW_load rfl ty_num rfl rfl rfl rfl ?_
      | refine AW_store ty_num rfl rfl rfl rfl rfl rfl rfl ?_
      | refine AW_extract rfl rfl rfl ?_
      | refine AW_alloc rfl tz_num ?_
      | refine AW_box rfl rfl (row := true) rfl (fun h => by cases h) rfl ?_
      | refine AW_not rfl rfl ?_
      | refine AW_build rfl tb_num rfl ?_
      | refine AW_call rfl rfl (by first | exact k1) ?_
      | refine AW_ints rfl tu_nums ti_num ti_size ti_zero rfl rfl rfl (by first | exact .cons _ _ _ _ _ rfl (.cons _ _ _ _ _ rfl (.nil _)) | exact .cons _ _ _ _ _ rfl (.cons _ _ _ _ _ rfl (.cons _ _ _ _ _ rfl (.cons _ _ _ _ _ rfl (.nil _)))) | exact .cons _ _ _ _ _ rfl (.cons _ _ _ _ _ rfl (.cons _ _ _ _ _ rfl (.nil _))) | exact .cons _ _ _ _ _ rfl (.cons _ _ _ _ _ rfl (.cons _ _ _ _ _ rfl (.cons _ _ _ _ _ rfl (.cons _ _ _ _ _ rfl (.nil _)))))) ?_
      | refine AW_fieldAddr rfl tf_neg rfl rfl ?_ | refine AW_fieldAddr rfl tf_mag rfl rfl ?_ | refine AW_load rfl ty_bool rfl rfl rfl rfl ?_ | refine AW_load rfl ty_mag rfl rfl rfl rfl ?_ | refine AW_beq rfl Try.underlying4 rfl rfl ?_ | refine AW_bne rfl Try.underlying4 rfl rfl ?_ | refine AW_len rfl rfl Try.underlying22 ?_ | refine AW_ge rfl rfl rfl ?_ | refine AW_gt rfl rfl rfl ?_
      | refine AW_pickT rfl rfl rfl ?_
      | refine AW_pickF rfl rfl rfl ?_
      | refine AW_skip rfl rfl rfl rfl ?_
      | refine AW_pickTg rfl rfl rfl rfl rfl rfl ?_
      | refine AW_pickFg rfl rfl rfl rfl rfl rfl ?_
      | refine AW_moveg rfl rfl rfl rfl rfl ?_
      | refine AW_notg rfl rfl rfl rfl rfl ?_
      | refine AW_eqg rfl rfl rfl rfl rfl rfl ?_
      | refine AW_eq rfl rfl rfl ?_
      | refine AW_loadg rfl rfl rfl rfl ty_num rfl rfl rfl rfl ?_
      | refine AW_callg rfl rfl rfl rfl rfl (by first | exact k1) ?_
      | refine AW_nil (fun (h : false = true) => by cases h) ?_
      | refine AW_nil (fun (_ : true = true) => by kernel_rfl) ?_
      | refine Wp_block ?_
      | refine Wp_skip ?_
      | refine Wp_exit ?_
      | refine Wp_ret ?_
    rw [hge, List.take_of_length_le (Nat.le_refl _)] at hall
    rw [hall]
    exact ⟨.inr rfl, _, .tmp _ _ _ _ rfl .nil, rfl⟩
theorem right_z {x : Raw} (hs : Small x.2) (h : rightInt x = true) : ∃ z : Int, x = rawOf z ∧ lc z.natAbs = x.2.length := by
  obtain ⟨z, e, l, _⟩ := right_int_of (b := x.1) (xs := x.2) hs h
  exact ⟨z, e, l⟩
set_option maxHeartbeats 1000000 in
set_option maxRecDepth 100000 in
theorem ct_law20awake : Ct Try.prog 26 [] (.val (aB true)) := by
  refine ct_of_wp [.tmp 0] [] 108 Try.func26 rfl rfl rfl rfl rfl rfl rfl rfl ?_
  intro G0 w0
  have g1 := ct_gOf 12 (-18) (lc_few (by decide)) (lc_few (by decide))
  rw [show gcdZ 12 (-18) = 6 by decide] at g1
  have b1 := ct_gBezout 12 18 (lc_few (by decide)) (lc_few (by decide))
  have eb : bzX 12 18 = 2 := by
    have h := bzX_spec (a := 12) (b := 18) (by decide)
    rw [show bM 12 18 = 3 by decide, show gcdZ 12 18 = 6 by decide] at h
    omega
  have ec : bzY 12 18 = -1 := by unfold bzY; rw [if_neg (by decide), eb, show gcdZ 12 18 = 6 by decide]; decide
  rw [show gcdZ 12 18 = 6 by decide, eb, ec] at b1
  have l1 := ct_gLcm 4 (-6) (lc_few (by decide)) (lc_few (by decide))
  rw [show lcmR 4 (-6) = rawOf 12 by unfold lcmR; rw [if_neg (by decide)]; rfl] at l1
  have j1 := ct_gJoin 2 3 3 5 (lc_few (by decide)) (lc_few (by decide)) (lc_few (by decide)) (lc_few (by decide)) (by decide) (by decide)
  have ej : joinX 2 3 3 5 = 8 := by
    have h := bzX_spec (a := 5) (b := 3) (by decide)
    rw [show bM 5 3 = 3 by decide, show gcdZ 5 3 = 1 by decide] at h
    have e : bzX 5 3 = 2 := by omega
    unfold joinX jX
    rw [if_neg (by decide), show (5 : Int).tdiv (gcdZ 3 5) = 5 by decide, show (3 : Int).tdiv (gcdZ 3 5) = 3 by decide, e, show gcdZ 3 5 = 1 by decide]
    decide
  rw [if_pos (by decide), ej, show lcmZ 3 5 = 15 by decide] at j1
  have j2 := ct_gJoin 0 4 1 6 (lc_few (by decide)) (lc_few (by decide)) (lc_few (by decide)) (lc_few (by decide)) (by decide) (by decide)
  rw [if_neg (by decide)] at j2
  have o := fun (n : Int) (h1 : -9223372036854775808 ≤ n) (h2 : n < 9223372036854775808) => ct_law20of n h1 h2
  have s := fun (z : Int) (h : z.natAbs ≤ 1000000) => ct_SameT (rawOf z) (raw_len (k := 1099511627776) (Nat.le_trans (lc_few h) (by decide)))
  repeat first
    | refine Wp_seq ?_
    | refine Wp_region tm_mixed ?_
    | refine AW_move rfl rfl ?_
    | refine AW_assign rfl rfl ?_
    | refine AW_load rfl ty_num rfl rfl rfl rfl ?_
    | refine AW_store ty_num rfl rfl rfl rfl rfl rfl rfl ?_
    | refine AW_extract rfl rfl rfl ?_
    | refine AW_alloc rfl tz_num ?_
    | refine AW_box rfl rfl (row := true) rfl (fun h => by cases h) rfl ?_
    | refine AW_not rfl rfl ?_
    | refine AW_build rfl tb_num rfl ?_
    | refine AW_call rfl rfl (by first | exact o _ (by decide) (by decide) | exact g1 | exact b1 | exact l1 | exact j1 | exact j2 | exact s _ (by decide)) ?_
    | refine AW_ints rfl tu_nums ti_num ti_size ti_zero rfl rfl rfl (by first | exact .cons _ _ _ _ _ rfl (.cons _ _ _ _ _ rfl (.nil _)) | exact .cons _ _ _ _ _ rfl (.cons _ _ _ _ _ rfl (.cons _ _ _ _ _ rfl (.cons _ _ _ _ _ rfl (.nil _)))) | exact .cons _ _ _ _ _ rfl (.cons _ _ _ _ _ rfl (.cons _ _ _ _ _ rfl (.nil _))) | exact .cons _ _ _ _ _ rfl (.cons _ _ _ _ _ rfl (.cons _ _ _ _ _ rfl (.cons _ _ _ _ _ rfl (.cons _ _ _ _ _ rfl (.nil _)))))) ?_
    | refine AW_fieldAddr rfl tf_neg rfl rfl ?_ | refine AW_fieldAddr rfl tf_mag rfl rfl ?_ | refine AW_load rfl ty_bool rfl rfl rfl rfl ?_ | refine AW_load rfl ty_mag rfl rfl rfl rfl ?_ | refine AW_beq rfl Try.underlying4 rfl rfl ?_ | refine AW_bne rfl Try.underlying4 rfl rfl ?_ | refine AW_len rfl rfl Try.underlying22 ?_ | refine AW_ge rfl rfl rfl ?_ | refine AW_gt rfl rfl rfl ?_
    | refine AW_pickT rfl rfl rfl ?_
    | refine AW_pickF rfl rfl rfl ?_
    | refine AW_skip rfl rfl rfl rfl ?_
    | refine AW_pickTg rfl rfl rfl rfl rfl rfl ?_
    | refine AW_pickFg rfl rfl rfl rfl rfl rfl ?_
    | refine AW_moveg rfl rfl rfl rfl rfl ?_
    | refine AW_notg rfl rfl rfl rfl rfl ?_
    | refine AW_eqg rfl rfl rfl rfl rfl rfl ?_
    | refine AW_eq rfl rfl rfl ?_
    | refine AW_loadg rfl rfl rfl rfl ty_num rfl rfl rfl rfl ?_
    | refine AW_callg rfl rfl rfl rfl rfl (by first | exact o _ (by decide) (by decide) | exact g1 | exact b1 | exact l1 | exact j1 | exact j2 | exact s _ (by decide)) ?_
    | refine AW_nil (fun (h : false = true) => by cases h) ?_
    | refine AW_nil (fun (_ : true = true) => by kernel_rfl) ?_
    | refine Wp_block ?_
    | refine Wp_skip ?_
    | refine Wp_exit ?_
    | refine Wp_ret ?_
  exact ⟨.inr rfl, _, .tmp _ _ _ _ rfl .nil, rfl⟩
end Go.Proofs.Ytonbhpadoplpkaa
/- The law of layer 20: GcdAcross. -/
namespace Go.Proofs.Ytonbhpadoplpkaa
open Go.RowKit Go.Deep
theorem gcdZ_neg (a b : Int) : gcdZ (-a) b = gcdZ a b := by unfold gcdZ; rw [Int.natAbs_neg]
theorem gcdZ_more (a b c : Int) : gcdZ (a + b * c) b = gcdZ a b := by
  unfold gcdZ
  congr 1
  refine Nat.dvd_antisymm (Nat.dvd_gcd ?_ (Nat.gcd_dvd_right _ _)) (Nat.dvd_gcd ?_ (Nat.gcd_dvd_right _ _))
  · have d1 := Int.ofNat_dvd_left.2 (Nat.gcd_dvd_left (a + b * c).natAbs b.natAbs)
    have d2 := Int.ofNat_dvd_left.2 (Nat.gcd_dvd_right (a + b * c).natAbs b.natAbs)
    refine Int.ofNat_dvd_left.1 ?_
    have d3 := Int.dvd_sub d1 (Int.dvd_trans d2 (Int.dvd_mul_right b c))
    rwa [show a + b * c - b * c = a by omega] at d3
  · have d1 := Int.ofNat_dvd_left.2 (Nat.gcd_dvd_left a.natAbs b.natAbs)
    have d2 := Int.ofNat_dvd_left.2 (Nat.gcd_dvd_right a.natAbs b.natAbs)
    refine Int.ofNat_dvd_left.1 ?_
    exact Int.dvd_add d1 (Int.dvd_trans d2 (Int.dvd_mul_right b c))
theorem gcdZ_times (a b c : Int) : gcdZ (a * c) (b * c) = ((gcdZ a b * c).natAbs : Int) := by
  unfold gcdZ
  rw [Int.natAbs_mul, Int.natAbs_mul, Int.natAbs_mul, Int.natAbs_natCast, Nat.gcd_mul_right]
theorem gcdZ_assoc (a b c : Int) : gcdZ (gcdZ a b) c = gcdZ a (gcdZ b c) := by
  unfold gcdZ
  rw [Int.natAbs_natCast, Int.natAbs_natCast, Nat.gcd_assoc]
theorem gcdZ_lc {a b : Int} {k : Nat} (ha : lc a.natAbs ≤ k) (hb : lc b.natAbs ≤ k) : lc (gcdZ a b).natAbs ≤ k := by
  unfold gcdZ; rw [Int.natAbs_natCast]; exact gcd_small ha hb
theorem raw_abs' (z : Int) : rawOf (z.natAbs : Int) = (false, (rawOf z).2) := by
  unfold rawOf
  rw [decide_eq_false (show ¬ ((z.natAbs : Int) < 0) by omega), Int.natAbs_natCast]
theorem long16_three {x y z : Raw} (h : long16 [x, y, z] = false) : x.2.length ≤ 16 ∧ y.2.length ≤ 16 ∧ z.2.length ≤ 16 := by
  unfold long16 at h
  simp only [List.any_cons, List.any_nil, Bool.or_false, Bool.or_eq_false_iff, decide_eq_false_iff_not] at h
  omega
set_option maxHeartbeats 2000000 in
set_option maxRecDepth 100000 in
theorem ct_GcdAcross (x y z : Raw) (hx : Small x.2) (hy : Small y.2) (hz : Small z.2) : Ct Try.prog 6 [aNum x, aNum y, aNum z] (.val (aB true)) := by
  refine ct_of_wp [.tmp 6] [(0, aNum x), (1, aNum y), (2, aNum z)] 160 Try.func6 rfl rfl rfl rfl rfl rfl rfl rfl ?_
  intro G0 w0
  have ka := ct_law20awake
  have kl := ct_law20long [x, y, z] (Nat.le_of_ble_eq_true rfl)
  have r1 := ct_Right x
  have r2 := ct_Right y
  have r3 := ct_Right z
  cases hl : long16 [x, y, z] with
  | true =>
    rw [hl] at kl
    repeat first
      | refine Wp_seq ?_
      | refine Wp_region tm_mixed ?_
      | refine AW_move rfl rfl ?_
      | refine AW_assign rfl rfl ?_
      | refine AW_load rfl ty_num rfl rfl rfl rfl ?_
      | refine AW_store ty_num rfl rfl rfl rfl rfl rfl rfl ?_
      | refine AW_extract rfl rfl rfl ?_
      | refine AW_alloc rfl tz_num ?_
      | refine AW_box rfl rfl (row := true) rfl (fun h => by cases h) rfl ?_
      | refine AW_not rfl rfl ?_
      | refine AW_build rfl tb_num rfl ?_
      | refine AW_call rfl rfl (by first | exact ka | exact kl) ?_
      | refine AW_ints rfl tu_nums ti_num ti_size ti_zero rfl rfl rfl (by first | exact .cons _ _ _ _ _ rfl (.cons _ _ _ _ _ rfl (.nil _)) | exact .cons _ _ _ _ _ rfl (.cons _ _ _ _ _ rfl (.cons _ _ _ _ _ rfl (.cons _ _ _ _ _ rfl (.nil _)))) | exact .cons _ _ _ _ _ rfl (.cons _ _ _ _ _ rfl (.cons _ _ _ _ _ rfl (.nil _))) | exact .cons _ _ _ _ _ rfl (.cons _ _ _ _ _ rfl (.cons _ _ _ _ _ rfl (.cons _ _ _ _ _ rfl (.cons _ _ _ _ _ rfl (.nil _)))))) ?_
      | refine AW_fieldAddr rfl tf_neg rfl rfl ?_ | refine AW_fieldAddr rfl tf_mag rfl rfl ?_ | refine AW_load rfl ty_bool rfl rfl rfl rfl ?_ | refine AW_load rfl ty_mag rfl rfl rfl rfl ?_ | refine AW_beq rfl Try.underlying4 rfl rfl ?_ | refine AW_bne rfl Try.underlying4 rfl rfl ?_ | refine AW_len rfl rfl Try.underlying22 ?_ | refine AW_ge rfl rfl rfl ?_ | refine AW_gt rfl rfl rfl ?_ | refine AW_store1 ty_bool rfl rfl rfl rfl rfl ?_
      | refine AW_pickT rfl rfl rfl ?_
      | refine AW_pickF rfl rfl rfl ?_
      | refine AW_skip rfl rfl rfl rfl ?_
      | refine AW_pickTg rfl rfl rfl rfl rfl rfl ?_
      | refine AW_pickFg rfl rfl rfl rfl rfl rfl ?_
      | refine AW_moveg rfl rfl rfl rfl rfl ?_
      | refine AW_notg rfl rfl rfl rfl rfl ?_
      | refine AW_eqg rfl rfl rfl rfl rfl rfl ?_
      | refine AW_eq rfl rfl rfl ?_
      | refine AW_loadg rfl rfl rfl rfl ty_num rfl rfl rfl rfl ?_
      | refine AW_callg rfl rfl rfl rfl rfl (by first | exact ka | exact kl) ?_
      | refine AW_nil (fun (h : false = true) => by cases h) ?_
      | refine AW_nil (fun (_ : true = true) => by kernel_rfl) ?_
      | refine Wp_block ?_
      | refine Wp_skip ?_
      | refine Wp_exit ?_
      | refine Wp_ret ?_
    refine Wp_condF rfl ?_
    repeat first
      | refine Wp_seq ?_
      | refine Wp_region tm_mixed ?_
      | refine AW_move rfl rfl ?_
      | refine AW_assign rfl rfl ?_
      | refine AW_load rfl ty_num rfl rfl rfl rfl ?_
      | refine AW_store ty_num rfl rfl rfl rfl rfl rfl rfl ?_
      | refine AW_extract rfl rfl rfl ?_
      | refine AW_alloc rfl tz_num ?_
      | refine AW_box rfl rfl (row := true) rfl (fun h => by cases h) rfl ?_
      | refine AW_not rfl rfl ?_
      | refine AW_build rfl tb_num rfl ?_
      | refine AW_call rfl rfl (by first | exact ka | exact kl) ?_
      | refine AW_ints rfl tu_nums ti_num ti_size ti_zero rfl rfl rfl (by first | exact .cons _ _ _ _ _ rfl (.cons _ _ _ _ _ rfl (.nil _)) | exact .cons _ _ _ _ _ rfl (.cons _ _ _ _ _ rfl (.cons _ _ _ _ _ rfl (.cons _ _ _ _ _ rfl (.nil _)))) | exact .cons _ _ _ _ _ rfl (.cons _ _ _ _ _ rfl (.cons _ _ _ _ _ rfl (.nil _))) | exact .cons _ _ _ _ _ rfl (.cons _ _ _ _ _ rfl (.cons _ _ _ _ _ rfl (.cons _ _ _ _ _ rfl (.cons _ _ _ _ _ rfl (.nil _)))))) ?_
      | refine AW_fieldAddr rfl tf_neg rfl rfl ?_ | refine AW_fieldAddr rfl tf_mag rfl rfl ?_ | refine AW_load rfl ty_bool rfl rfl rfl rfl ?_ | refine AW_load rfl ty_mag rfl rfl rfl rfl ?_ | refine AW_beq rfl Try.underlying4 rfl rfl ?_ | refine AW_bne rfl Try.underlying4 rfl rfl ?_ | refine AW_len rfl rfl Try.underlying22 ?_ | refine AW_ge rfl rfl rfl ?_ | refine AW_gt rfl rfl rfl ?_ | refine AW_store1 ty_bool rfl rfl rfl rfl rfl ?_
      | refine AW_pickT rfl rfl rfl ?_
      | refine AW_pickF rfl rfl rfl ?_
      | refine AW_skip rfl rfl rfl rfl ?_
      | refine AW_pickTg rfl rfl rfl rfl rfl rfl ?_
      | refine AW_pickFg rfl rfl rfl rfl rfl rfl ?_
      | refine AW_moveg rfl rfl rfl rfl rfl ?_
      | refine AW_notg rfl rfl rfl rfl rfl ?_
      | refine AW_eqg rfl rfl rfl rfl rfl rfl ?_
      | refine AW_eq rfl rfl rfl ?_
      | refine AW_loadg rfl rfl rfl rfl ty_num rfl rfl rfl rfl ?_
      | refine AW_callg rfl rfl rfl rfl rfl (by first | exact ka | exact kl) ?_
      | refine AW_nil (fun (h : false = true) => by cases h) ?_
      | refine AW_nil (fun (_ : true = true) => by kernel_rfl) ?_
      | refine Wp_block ?_
      | refine Wp_skip ?_
      | refine Wp_exit ?_
      | refine Wp_ret ?_
    refine Wp_condT rfl ?_
    repeat first
      | refine Wp_seq ?_
      | refine Wp_region tm_mixed ?_
      | refine AW_move rfl rfl ?_
      | refine AW_assign rfl rfl ?_
      | refine AW_load rfl ty_num rfl rfl rfl rfl ?_
      | refine AW_store ty_num rfl rfl rfl rfl rfl rfl rfl ?_
      | refine AW_extract rfl rfl rfl ?_
      | refine AW_alloc rfl tz_num ?_
      | refine AW_box rfl rfl (row := true) rfl (fun h => by cases h) rfl ?_
      | refine AW_not rfl rfl ?_
      | refine AW_build rfl tb_num rfl ?_
      | refine AW_call rfl rfl (by first | exact ka | exact kl) ?_
      | refine AW_ints rfl tu_nums ti_num ti_size ti_zero rfl rfl rfl (by first | exact .cons _ _ _ _ _ rfl (.cons _ _ _ _ _ rfl (.nil _)) | exact .cons _ _ _ _ _ rfl (.cons _ _ _ _ _ rfl (.cons _ _ _ _ _ rfl (.cons _ _ _ _ _ rfl (.nil _)))) | exact .cons _ _ _ _ _ rfl (.cons _ _ _ _ _ rfl (.cons _ _ _ _ _ rfl (.nil _))) | exact .cons _ _ _ _ _ rfl (.cons _ _ _ _ _ rfl (.cons _ _ _ _ _ rfl (.cons _ _ _ _ _ rfl (.cons _ _ _ _ _ rfl (.nil _)))))) ?_
      | refine AW_fieldAddr rfl tf_neg rfl rfl ?_ | refine AW_fieldAddr rfl tf_mag rfl rfl ?_ | refine AW_load rfl ty_bool rfl rfl rfl rfl ?_ | refine AW_load rfl ty_mag rfl rfl rfl rfl ?_ | refine AW_beq rfl Try.underlying4 rfl rfl ?_ | refine AW_bne rfl Try.underlying4 rfl rfl ?_ | refine AW_len rfl rfl Try.underlying22 ?_ | refine AW_ge rfl rfl rfl ?_ | refine AW_gt rfl rfl rfl ?_ | refine AW_store1 ty_bool rfl rfl rfl rfl rfl ?_
      | refine AW_pickT rfl rfl rfl ?_
      | refine AW_pickF rfl rfl rfl ?_
      | refine AW_skip rfl rfl rfl rfl ?_
      | refine AW_pickTg rfl rfl rfl rfl rfl rfl ?_
      | refine AW_pickFg rfl rfl rfl rfl rfl rfl ?_
      | refine AW_moveg rfl rfl rfl rfl rfl ?_
      | refine AW_notg rfl rfl rfl rfl rfl ?_
      | refine AW_eqg rfl rfl rfl rfl rfl rfl ?_
      | refine AW_eq rfl rfl rfl ?_
      | refine AW_loadg rfl rfl rfl rfl ty_num rfl rfl rfl rfl ?_
      | refine AW_callg rfl rfl rfl rfl rfl (by first | exact ka | exact kl) ?_
      | refine AW_nil (fun (h : false = true) => by cases h) ?_
      | refine AW_nil (fun (_ : true = true) => by kernel_rfl) ?_
      | refine Wp_block ?_
      | refine Wp_skip ?_
      | refine Wp_exit ?_
      | refine Wp_ret ?_
    exact ⟨.inr rfl, _, .tmp _ _ _ _ rfl .nil, rfl⟩
  | false =>
    rw [hl] at kl
    obtain ⟨l1, l2, l3⟩ := long16_three hl
    cases h1 : rightInt x with
    | false =>
      rw [h1] at r1
      repeat first
        | refine Wp_seq ?_
        | refine Wp_region tm_mixed ?_
        | refine AW_move rfl rfl ?_
        | refine AW_assign rfl rfl ?_
        | refine AW_load rfl ty_num rfl rfl rfl rfl ?_
        | refine AW_store ty_num rfl rfl rfl rfl rfl rfl rfl ?_
        | refine AW_extract rfl rfl rfl ?_
        | refine AW_alloc rfl tz_num ?_
        | refine AW_box rfl rfl (row := true) rfl (fun h => by cases h) rfl ?_
        | refine AW_not rfl rfl ?_
        | refine AW_build rfl tb_num rfl ?_
        | refine AW_call rfl rfl (by first | exact ka | exact kl | exact r1) ?_
        | refine AW_ints rfl tu_nums ti_num ti_size ti_zero rfl rfl rfl (by first | exact .cons _ _ _ _ _ rfl (.cons _ _ _ _ _ rfl (.nil _)) | exact .cons _ _ _ _ _ rfl (.cons _ _ _ _ _ rfl (.cons _ _ _ _ _ rfl (.cons _ _ _ _ _ rfl (.nil _)))) | exact .cons _ _ _ _ _ rfl (.cons _ _ _ _ _ rfl (.cons _ _ _ _ _ rfl (.nil _))) | exact .cons _ _ _ _ _ rfl (.cons _ _ _ _ _ rfl (.cons _ _ _ _ _ rfl (.cons _ _ _ _ _ rfl (.cons _ _ _ _ _ rfl (.nil _)))))) ?_
        | refine AW_fieldAddr rfl tf_neg rfl rfl ?_ | refine AW_fieldAddr rfl tf_mag rfl rfl ?_ | refine AW_load rfl ty_bool rfl rfl rfl rfl ?_ | refine AW_load rfl ty_mag rfl rfl rfl rfl ?_ | refine AW_beq rfl Try.underlying4 rfl rfl ?_ | refine AW_bne rfl Try.underlying4 rfl rfl ?_ | refine AW_len rfl rfl Try.underlying22 ?_ | refine AW_ge rfl rfl rfl ?_ | refine AW_gt rfl rfl rfl ?_ | refine AW_store1 ty_bool rfl rfl rfl rfl rfl ?_
        | refine AW_pickT rfl rfl rfl ?_
        | refine AW_pickF rfl rfl rfl ?_
        | refine AW_skip rfl rfl rfl rfl ?_
        | refine AW_pickTg rfl rfl rfl rfl rfl rfl ?_
        | refine AW_pickFg rfl rfl rfl rfl rfl rfl ?_
        | refine AW_moveg rfl rfl rfl rfl rfl ?_
        | refine AW_notg rfl rfl rfl rfl rfl ?_
        | refine AW_eqg rfl rfl rfl rfl rfl rfl ?_
        | refine AW_eq rfl rfl rfl ?_
        | refine AW_loadg rfl rfl rfl rfl ty_num rfl rfl rfl rfl ?_
        | refine AW_callg rfl rfl rfl rfl rfl (by first | exact ka | exact kl | exact r1) ?_
        | refine AW_nil (fun (h : false = true) => by cases h) ?_
        | refine AW_nil (fun (_ : true = true) => by kernel_rfl) ?_
        | refine Wp_block ?_
        | refine Wp_skip ?_
        | refine Wp_exit ?_
        | refine Wp_ret ?_
      refine Wp_condF rfl ?_
      repeat first
        | refine Wp_seq ?_
        | refine Wp_region tm_mixed ?_
        | refine AW_move rfl rfl ?_
        | refine AW_assign rfl rfl ?_
        | refine AW_load rfl ty_num rfl rfl rfl rfl ?_
        | refine AW_store ty_num rfl rfl rfl rfl rfl rfl rfl ?_
        | refine AW_extract rfl rfl rfl ?_
        | refine AW_alloc rfl tz_num ?_
        | refine AW_box rfl rfl (row := true) rfl (fun h => by cases h) rfl ?_
        | refine AW_not rfl rfl ?_
        | refine AW_build rfl tb_num rfl ?_
        | refine AW_call rfl rfl (by first | exact ka | exact kl | exact r1) ?_
        | refine AW_ints rfl tu_nums ti_num ti_size ti_zero rfl rfl rfl (by first | exact .cons _ _ _ _ _ rfl (.cons _ _ _ _ _ rfl (.nil _)) | exact .cons _ _ _ _ _ rfl (.cons _ _ _ _ _ rfl (.cons _ _ _ _ _ rfl (.cons _ _ _ _ _ rfl (.nil _)))) | exact .cons _ _ _ _ _ rfl (.cons _ _ _ _ _ rfl (.cons _ _ _ _ _ rfl (.nil _))) | exact .cons _ _ _ _ _ rfl (.cons _ _ _ _ _ rfl (.cons _ _ _ _ _ rfl (.cons _ _ _ _ _ rfl (.cons _ _ _ _ _ rfl (.nil _)))))) ?_
        | refine AW_fieldAddr rfl tf_neg rfl rfl ?_ | refine AW_fieldAddr rfl tf_mag rfl rfl ?_ | refine AW_load rfl ty_bool rfl rfl rfl rfl ?_ | refine AW_load rfl ty_mag rfl rfl rfl rfl ?_ | refine AW_beq rfl Try.underlying4 rfl rfl ?_ | refine AW_bne rfl Try.underlying4 rfl rfl ?_ | refine AW_len rfl rfl Try.underlying22 ?_ | refine AW_ge rfl rfl rfl ?_ | refine AW_gt rfl rfl rfl ?_ | refine AW_store1 ty_bool rfl rfl rfl rfl rfl ?_
        | refine AW_pickT rfl rfl rfl ?_
        | refine AW_pickF rfl rfl rfl ?_
        | refine AW_skip rfl rfl rfl rfl ?_
        | refine AW_pickTg rfl rfl rfl rfl rfl rfl ?_
        | refine AW_pickFg rfl rfl rfl rfl rfl rfl ?_
        | refine AW_moveg rfl rfl rfl rfl rfl ?_
        | refine AW_notg rfl rfl rfl rfl rfl ?_
        | refine AW_eqg rfl rfl rfl rfl rfl rfl ?_
        | refine AW_eq rfl rfl rfl ?_
        | refine AW_loadg rfl rfl rfl rfl ty_num rfl rfl rfl rfl ?_
        | refine AW_callg rfl rfl rfl rfl rfl (by first | exact ka | exact kl | exact r1) ?_
        | refine AW_nil (fun (h : false = true) => by cases h) ?_
        | refine AW_nil (fun (_ : true = true) => by kernel_rfl) ?_
        | refine Wp_block ?_
        | refine Wp_skip ?_
        | refine Wp_exit ?_
        | refine Wp_ret ?_
      refine Wp_condT rfl ?_
      repeat first
        | refine Wp_seq ?_
        | refine Wp_region tm_mixed ?_
        | refine AW_move rfl rfl ?_
        | refine AW_assign rfl rfl ?_
        | refine AW_load rfl ty_num rfl rfl rfl rfl ?_
        | refine AW_store ty_num rfl rfl rfl rfl rfl rfl rfl ?_
        | refine AW_extract rfl rfl rfl ?_
        | refine AW_alloc rfl tz_num ?_
        | refine AW_box rfl rfl (row := true) rfl (fun h => by cases h) rfl ?_
        | refine AW_not rfl rfl ?_
        | refine AW_build rfl tb_num rfl ?_
        | refine AW_call rfl rfl (by first | exact ka) ?_
        | refine AW_ints rfl tu_nums ti_num ti_size ti_zero rfl rfl rfl (by first | exact .cons _ _ _ _ _ rfl (.cons _ _ _ _ _ rfl (.nil _)) | exact .cons _ _ _ _ _ rfl (.cons _ _ _ _ _ rfl (.cons _ _ _ _ _ rfl (.cons _ _ _ _ _ rfl (.nil _)))) | exact .cons _ _ _ _ _ rfl (.cons _ _ _ _ _ rfl (.cons _ _ _ _ _ rfl (.nil _))) | exact .cons _ _ _ _ _ rfl (.cons _ _ _ _ _ rfl (.cons _ _ _ _ _ rfl (.cons _ _ _ _ _ rfl (.cons _ _ _ _ _ rfl (.nil _)))))) ?_
        | refine AW_fieldAddr rfl tf_neg rfl rfl ?_ | refine AW_fieldAddr rfl tf_mag rfl rfl ?_ | refine AW_load rfl ty_bool rfl rfl rfl rfl ?_ | refine AW_load rfl ty_mag rfl rfl rfl rfl ?_ | refine AW_beq rfl Try.underlying4 rfl rfl ?_ | refine AW_bne rfl Try.underlying4 rfl rfl ?_ | refine AW_len rfl rfl Try.underlying22 ?_ | refine AW_ge rfl rfl rfl ?_ | refine AW_gt rfl rfl rfl ?_ | refine AW_store1 ty_bool rfl rfl rfl rfl rfl ?_
        | refine AW_pickT rfl rfl rfl ?_
        | refine AW_pickF rfl rfl rfl ?_
        | refine AW_skip rfl rfl rfl rfl ?_
        | refine AW_pickTg rfl rfl rfl rfl rfl rfl ?_
        | refine AW_pickFg rfl rfl rfl rfl rfl rfl ?_
        | refine AW_moveg rfl rfl rfl rfl rfl ?_
        | refine AW_notg rfl rfl rfl rfl rfl ?_
        | refine AW_eqg rfl rfl rfl rfl rfl rfl ?_
        | refine AW_eq rfl rfl rfl ?_
        | refine AW_loadg rfl rfl rfl rfl ty_num rfl rfl rfl rfl ?_
        | refine AW_callg rfl rfl rfl rfl rfl (by first | exact ka) ?_
        | refine AW_nil (fun (h : false = true) => by cases h) ?_
        | refine AW_nil (fun (_ : true = true) => by kernel_rfl) ?_
        | refine Wp_block ?_
        | refine Wp_skip ?_
        | refine Wp_exit ?_
        | refine Wp_ret ?_
      exact ⟨.inr rfl, _, .tmp _ _ _ _ rfl .nil, rfl⟩
    | true =>
      rw [h1] at r1
      cases h2 : rightInt y with
      | false =>
        rw [h2] at r2
        repeat first
          | refine Wp_seq ?_
          | refine Wp_region tm_mixed ?_
          | refine AW_move rfl rfl ?_
          | refine AW_assign rfl rfl ?_
          | refine AW_load rfl ty_num rfl rfl rfl rfl ?_
          | refine AW_store ty_num rfl rfl rfl rfl rfl rfl rfl ?_
          | refine AW_extract rfl rfl rfl ?_
          | refine AW_alloc rfl tz_num ?_
          | refine AW_box rfl rfl (row := true) rfl (fun h => by cases h) rfl ?_
          | refine AW_not rfl rfl ?_
          | refine AW_build rfl tb_num rfl ?_
          | refine AW_call rfl rfl (by first | exact ka | exact kl | exact r1 | exact r2) ?_
          | refine AW_ints rfl tu_nums ti_num ti_size ti_zero rfl rfl rfl (by first | exact .cons _ _ _ _ _ rfl (.cons _ _ _ _ _ rfl (.nil _)) | exact .cons _ _ _ _ _ rfl (.cons _ _ _ _ _ rfl (.cons _ _ _ _ _ rfl (.cons _ _ _ _ _ rfl (.nil _)))) | exact .cons _ _ _ _ _ rfl (.cons _ _ _ _ _ rfl (.cons _ _ _ _ _ rfl (.nil _))) | exact .cons _ _ _ _ _ rfl (.cons _ _ _ _ _ rfl (.cons _ _ _ _ _ rfl (.cons _ _ _ _ _ rfl (.cons _ _ _ _ _ rfl (.nil _)))))) ?_
          | refine AW_fieldAddr rfl tf_neg rfl rfl ?_ | refine AW_fieldAddr rfl tf_mag rfl rfl ?_ | refine AW_load rfl ty_bool rfl rfl rfl rfl ?_ | refine AW_load rfl ty_mag rfl rfl rfl rfl ?_ | refine AW_beq rfl Try.underlying4 rfl rfl ?_ | refine AW_bne rfl Try.underlying4 rfl rfl ?_ | refine AW_len rfl rfl Try.underlying22 ?_ | refine AW_ge rfl rfl rfl ?_ | refine AW_gt rfl rfl rfl ?_ | refine AW_store1 ty_bool rfl rfl rfl rfl rfl ?_
          | refine AW_pickT rfl rfl rfl ?_
          | refine AW_pickF rfl rfl rfl ?_
          | refine AW_skip rfl rfl rfl rfl ?_
          | refine AW_pickTg rfl rfl rfl rfl rfl rfl ?_
          | refine AW_pickFg rfl rfl rfl rfl rfl rfl ?_
          | refine AW_moveg rfl rfl rfl rfl rfl ?_
          | refine AW_notg rfl rfl rfl rfl rfl ?_
          | refine AW_eqg rfl rfl rfl rfl rfl rfl ?_
          | refine AW_eq rfl rfl rfl ?_
          | refine AW_loadg rfl rfl rfl rfl ty_num rfl rfl rfl rfl ?_
          | refine AW_callg rfl rfl rfl rfl rfl (by first | exact ka | exact kl | exact r1 | exact r2) ?_
          | refine AW_nil (fun (h : false = true) => by cases h) ?_
          | refine AW_nil (fun (_ : true = true) => by kernel_rfl) ?_
          | refine Wp_block ?_
          | refine Wp_skip ?_
          | refine Wp_exit ?_
          | refine Wp_ret ?_
        refine Wp_condF rfl ?_
        repeat first
          | refine Wp_seq ?_
          | refine Wp_region tm_mixed ?_
          | refine AW_move rfl rfl ?_
          | refine AW_assign rfl rfl ?_
          | refine AW_load rfl ty_num rfl rfl rfl rfl ?_
          | refine AW_store ty_num rfl rfl rfl rfl rfl rfl rfl ?_
          | refine AW_extract rfl rfl rfl ?_
          | refine AW_alloc rfl tz_num ?_
          | refine AW_box rfl rfl (row := true) rfl (fun h => by cases h) rfl ?_
          | refine AW_not rfl rfl ?_
          | refine AW_build rfl tb_num rfl ?_
          | refine AW_call rfl rfl (by first | exact ka | exact kl | exact r1 | exact r2) ?_
          | refine AW_ints rfl tu_nums ti_num ti_size ti_zero rfl rfl rfl (by first | exact .cons _ _ _ _ _ rfl (.cons _ _ _ _ _ rfl (.nil _)) | exact .cons _ _ _ _ _ rfl (.cons _ _ _ _ _ rfl (.cons _ _ _ _ _ rfl (.cons _ _ _ _ _ rfl (.nil _)))) | exact .cons _ _ _ _ _ rfl (.cons _ _ _ _ _ rfl (.cons _ _ _ _ _ rfl (.nil _))) | exact .cons _ _ _ _ _ rfl (.cons _ _ _ _ _ rfl (.cons _ _ _ _ _ rfl (.cons _ _ _ _ _ rfl (.cons _ _ _ _ _ rfl (.nil _)))))) ?_
          | refine AW_fieldAddr rfl tf_neg rfl rfl ?_ | refine AW_fieldAddr rfl tf_mag rfl rfl ?_ | refine AW_load rfl ty_bool rfl rfl rfl rfl ?_ | refine AW_load rfl ty_mag rfl rfl rfl rfl ?_ | refine AW_beq rfl Try.underlying4 rfl rfl ?_ | refine AW_bne rfl Try.underlying4 rfl rfl ?_ | refine AW_len rfl rfl Try.underlying22 ?_ | refine AW_ge rfl rfl rfl ?_ | refine AW_gt rfl rfl rfl ?_ | refine AW_store1 ty_bool rfl rfl rfl rfl rfl ?_
          | refine AW_pickT rfl rfl rfl ?_
          | refine AW_pickF rfl rfl rfl ?_
          | refine AW_skip rfl rfl rfl rfl ?_
          | refine AW_pickTg rfl rfl rfl rfl rfl rfl ?_
          | refine AW_pickFg rfl rfl rfl rfl rfl rfl ?_
          | refine AW_moveg rfl rfl rfl rfl rfl ?_
          | refine AW_notg rfl rfl rfl rfl rfl ?_
          | refine AW_eqg rfl rfl rfl rfl rfl rfl ?_
          | refine AW_eq rfl rfl rfl ?_
          | refine AW_loadg rfl rfl rfl rfl ty_num rfl rfl rfl rfl ?_
          | refine AW_callg rfl rfl rfl rfl rfl (by first | exact ka | exact kl | exact r1 | exact r2) ?_
          | refine AW_nil (fun (h : false = true) => by cases h) ?_
          | refine AW_nil (fun (_ : true = true) => by kernel_rfl) ?_
          | refine Wp_block ?_
          | refine Wp_skip ?_
          | refine Wp_exit ?_
          | refine Wp_ret ?_
        refine Wp_condT rfl ?_
        repeat first
          | refine Wp_seq ?_
          | refine Wp_region tm_mixed ?_
          | refine AW_move rfl rfl ?_
          | refine AW_assign rfl rfl ?_
          | refine AW_load rfl ty_num rfl rfl rfl rfl ?_
          | refine AW_store ty_num rfl rfl rfl rfl rfl rfl rfl ?_
          | refine AW_extract rfl rfl rfl ?_
          | refine AW_alloc rfl tz_num ?_
          | refine AW_box rfl rfl (row := true) rfl (fun h => by cases h) rfl ?_
          | refine AW_not rfl rfl ?_
          | refine AW_build rfl tb_num rfl ?_
          | refine AW_call rfl rfl (by first | exact ka) ?_
          | refine AW_ints rfl tu_nums ti_num ti_size ti_zero rfl rfl rfl (by first | exact .cons _ _ _ _ _ rfl (.cons _ _ _ _ _ rfl (.nil _)) | exact .cons _ _ _ _ _ rfl (.cons _ _ _ _ _ rfl (.cons _ _ _ _ _ rfl (.cons _ _ _ _ _ rfl (.nil _)))) | exact .cons _ _ _ _ _ rfl (.cons _ _ _ _ _ rfl (.cons _ _ _ _ _ rfl (.nil _))) | exact .cons _ _ _ _ _ rfl (.cons _ _ _ _ _ rfl (.cons _ _ _ _ _ rfl (.cons _ _ _ _ _ rfl (.cons _ _ _ _ _ rfl (.nil _)))))) ?_
          | refine AW_fieldAddr rfl tf_neg rfl rfl ?_ | refine AW_fieldAddr rfl tf_mag rfl rfl ?_ | refine AW_load rfl ty_bool rfl rfl rfl rfl ?_ | refine AW_load rfl ty_mag rfl rfl rfl rfl ?_ | refine AW_beq rfl Try.underlying4 rfl rfl ?_ | refine AW_bne rfl Try.underlying4 rfl rfl ?_ | refine AW_len rfl rfl Try.underlying22 ?_ | refine AW_ge rfl rfl rfl ?_ | refine AW_gt rfl rfl rfl ?_ | refine AW_store1 ty_bool rfl rfl rfl rfl rfl ?_
          | refine AW_pickT rfl rfl rfl ?_
          | refine AW_pickF rfl rfl rfl ?_
          | refine AW_skip rfl rfl rfl rfl ?_
          | refine AW_pickTg rfl rfl rfl rfl rfl rfl ?_
          | refine AW_pickFg rfl rfl rfl rfl rfl rfl ?_
          | refine AW_moveg rfl rfl rfl rfl rfl ?_
          | refine AW_notg rfl rfl rfl rfl rfl ?_
          | refine AW_eqg rfl rfl rfl rfl rfl rfl ?_
          | refine AW_eq rfl rfl rfl ?_
          | refine AW_loadg rfl rfl rfl rfl ty_num rfl rfl rfl rfl ?_
          | refine AW_callg rfl rfl rfl rfl rfl (by first | exact ka) ?_
          | refine AW_nil (fun (h : false = true) => by cases h) ?_
          | refine AW_nil (fun (_ : true = true) => by kernel_rfl) ?_
          | refine Wp_block ?_
          | refine Wp_skip ?_
          | refine Wp_exit ?_
          | refine Wp_ret ?_
        exact ⟨.inr rfl, _, .tmp _ _ _ _ rfl .nil, rfl⟩
      | true =>
        rw [h2] at r2
        cases h3 : rightInt z with
        | false =>
          rw [h3] at r3
          repeat first
            | refine Wp_seq ?_
            | refine Wp_region tm_mixed ?_
            | refine AW_move rfl rfl ?_
            | refine AW_assign rfl rfl ?_
            | refine AW_load rfl ty_num rfl rfl rfl rfl ?_
            | refine AW_store ty_num rfl rfl rfl rfl rfl rfl rfl ?_
            | refine AW_extract rfl rfl rfl ?_
            | refine AW_alloc rfl tz_num ?_
            | refine AW_box rfl rfl (row := true) rfl (fun h => by cases h) rfl ?_
            | refine AW_not rfl rfl ?_
            | refine AW_build rfl tb_num rfl ?_
            | refine AW_call rfl rfl (by first | exact ka | exact kl | exact r1 | exact r2 | exact r3) ?_
            | refine AW_ints rfl tu_nums ti_num ti_size ti_zero rfl rfl rfl (by first | exact .cons _ _ _ _ _ rfl (.cons _ _ _ _ _ rfl (.nil _)) | exact .cons _ _ _ _ _ rfl (.cons _ _ _ _ _ rfl (.cons _ _ _ _ _ rfl (.cons _ _ _ _ _ rfl (.nil _)))) | exact .cons _ _ _ _ _ rfl (.cons _ _ _ _ _ rfl (.cons _ _ _ _ _ rfl (.nil _))) | exact .cons _ _ _ _ _ rfl (.cons _ _ _ _ _ rfl (.cons _ _ _ _ _ rfl (.cons _ _ _ _ _ rfl (.cons _ _ _ _ _ rfl (.nil _)))))) ?_
            | refine AW_fieldAddr rfl tf_neg rfl rfl ?_ | refine AW_fieldAddr rfl tf_mag rfl rfl ?_ | refine AW_load rfl ty_bool rfl rfl rfl rfl ?_ | refine AW_load rfl ty_mag rfl rfl rfl rfl ?_ | refine AW_beq rfl Try.underlying4 rfl rfl ?_ | refine AW_bne rfl Try.underlying4 rfl rfl ?_ | refine AW_len rfl rfl Try.underlying22 ?_ | refine AW_ge rfl rfl rfl ?_ | refine AW_gt rfl rfl rfl ?_ | refine AW_store1 ty_bool rfl rfl rfl rfl rfl ?_
            | refine AW_pickT rfl rfl rfl ?_
            | refine AW_pickF rfl rfl rfl ?_
            | refine AW_skip rfl rfl rfl rfl ?_
            | refine AW_pickTg rfl rfl rfl rfl rfl rfl ?_
            | refine AW_pickFg rfl rfl rfl rfl rfl rfl ?_
            | refine AW_moveg rfl rfl rfl rfl rfl ?_
            | refine AW_notg rfl rfl rfl rfl rfl ?_
            | refine AW_eqg rfl rfl rfl rfl rfl rfl ?_
            | refine AW_eq rfl rfl rfl ?_
            | refine AW_loadg rfl rfl rfl rfl ty_num rfl rfl rfl rfl ?_
            | refine AW_callg rfl rfl rfl rfl rfl (by first | exact ka | exact kl | exact r1 | exact r2 | exact r3) ?_
            | refine AW_nil (fun (h : false = true) => by cases h) ?_
            | refine AW_nil (fun (_ : true = true) => by kernel_rfl) ?_
            | refine Wp_block ?_
            | refine Wp_skip ?_
            | refine Wp_exit ?_
            | refine Wp_ret ?_
          refine Wp_condF rfl ?_
          repeat first
            | refine Wp_seq ?_
            | refine Wp_region tm_mixed ?_
            | refine AW_move rfl rfl ?_
            | refine AW_assign rfl rfl ?_
            | refine AW_load rfl ty_num rfl rfl rfl rfl ?_
            | refine AW_store ty_num rfl rfl rfl rfl rfl rfl rfl ?_
            | refine AW_extract rfl rfl rfl ?_
            | refine AW_alloc rfl tz_num ?_
            | refine AW_box rfl rfl (row := true) rfl (fun h => by cases h) rfl ?_
            | refine AW_not rfl rfl ?_
            | refine AW_build rfl tb_num rfl ?_
            | refine AW_call rfl rfl (by first | exact ka | exact kl | exact r1 | exact r2 | exact r3) ?_
            | refine AW_ints rfl tu_nums ti_num ti_size ti_zero rfl rfl rfl (by first | exact .cons _ _ _ _ _ rfl (.cons _ _ _ _ _ rfl (.nil _)) | exact .cons _ _ _ _ _ rfl (.cons _ _ _ _ _ rfl (.cons _ _ _ _ _ rfl (.cons _ _ _ _ _ rfl (.nil _)))) | exact .cons _ _ _ _ _ rfl (.cons _ _ _ _ _ rfl (.cons _ _ _ _ _ rfl (.nil _))) | exact .cons _ _ _ _ _ rfl (.cons _ _ _ _ _ rfl (.cons _ _ _ _ _ rfl (.cons _ _ _ _ _ rfl (.cons _ _ _ _ _ rfl (.nil _)))))) ?_
            | refine AW_fieldAddr rfl tf_neg rfl rfl ?_ | refine AW_fieldAddr rfl tf_mag rfl rfl ?_ | refine AW_load rfl ty_bool rfl rfl rfl rfl ?_ | refine AW_load rfl ty_mag rfl rfl rfl rfl ?_ | refine AW_beq rfl Try.underlying4 rfl rfl ?_ | refine AW_bne rfl Try.underlying4 rfl rfl ?_ | refine AW_len rfl rfl Try.underlying22 ?_ | refine AW_ge rfl rfl rfl ?_ | refine AW_gt rfl rfl rfl ?_ | refine AW_store1 ty_bool rfl rfl rfl rfl rfl ?_
            | refine AW_pickT rfl rfl rfl ?_
            | refine AW_pickF rfl rfl rfl ?_
            | refine AW_skip rfl rfl rfl rfl ?_
            | refine AW_pickTg rfl rfl rfl rfl rfl rfl ?_
            | refine AW_pickFg rfl rfl rfl rfl rfl rfl ?_
            | refine AW_moveg rfl rfl rfl rfl rfl ?_
            | refine AW_notg rfl rfl rfl rfl rfl ?_
            | refine AW_eqg rfl rfl rfl rfl rfl rfl ?_
            | refine AW_eq rfl rfl rfl ?_
            | refine AW_loadg rfl rfl rfl rfl ty_num rfl rfl rfl rfl ?_
            | refine AW_callg rfl rfl rfl rfl rfl (by first | exact ka | exact kl | exact r1 | exact r2 | exact r3) ?_
            | refine AW_nil (fun (h : false = true) => by cases h) ?_
            | refine AW_nil (fun (_ : true = true) => by kernel_rfl) ?_
            | refine Wp_block ?_
            | refine Wp_skip ?_
            | refine Wp_exit ?_
            | refine Wp_ret ?_
          refine Wp_condT rfl ?_
          repeat first
            | refine Wp_seq ?_
            | refine Wp_region tm_mixed ?_
            | refine AW_move rfl rfl ?_
            | refine AW_assign rfl rfl ?_
            | refine AW_load rfl ty_num rfl rfl rfl rfl ?_
            | refine AW_store ty_num rfl rfl rfl rfl rfl rfl rfl ?_
            | refine AW_extract rfl rfl rfl ?_
            | refine AW_alloc rfl tz_num ?_
            | refine AW_box rfl rfl (row := true) rfl (fun h => by cases h) rfl ?_
            | refine AW_not rfl rfl ?_
            | refine AW_build rfl tb_num rfl ?_
            | refine AW_call rfl rfl (by first | exact ka) ?_
            | refine AW_ints rfl tu_nums ti_num ti_size ti_zero rfl rfl rfl (by first | exact .cons _ _ _ _ _ rfl (.cons _ _ _ _ _ rfl (.nil _)) | exact .cons _ _ _ _ _ rfl (.cons _ _ _ _ _ rfl (.cons _ _ _ _ _ rfl (.cons _ _ _ _ _ rfl (.nil _)))) | exact .cons _ _ _ _ _ rfl (.cons _ _ _ _ _ rfl (.cons _ _ _ _ _ rfl (.nil _))) | exact .cons _ _ _ _ _ rfl (.cons _ _ _ _ _ rfl (.cons _ _ _ _ _ rfl (.cons _ _ _ _ _ rfl (.cons _ _ _ _ _ rfl (.nil _)))))) ?_
            | refine AW_fieldAddr rfl tf_neg rfl rfl ?_ | refine AW_fieldAddr rfl tf_mag rfl rfl ?_ | refine AW_load rfl ty_bool rfl rfl rfl rfl ?_ | refine AW_load rfl ty_mag rfl rfl rfl rfl ?_ | refine AW_beq rfl Try.underlying4 rfl rfl ?_ | refine AW_bne rfl Try.underlying4 rfl rfl ?_ | refine AW_len rfl rfl Try.underlying22 ?_ | refine AW_ge rfl rfl rfl ?_ | refine AW_gt rfl rfl rfl ?_ | refine AW_store1 ty_bool rfl rfl rfl rfl rfl ?_
            | refine AW_pickT rfl rfl rfl ?_
            | refine AW_pickF rfl rfl rfl ?_
            | refine AW_skip rfl rfl rfl rfl ?_
            | refine AW_pickTg rfl rfl rfl rfl rfl rfl ?_
            | refine AW_pickFg rfl rfl rfl rfl rfl rfl ?_
            | refine AW_moveg rfl rfl rfl rfl rfl ?_
            | refine AW_notg rfl rfl rfl rfl rfl ?_
            | refine AW_eqg rfl rfl rfl rfl rfl rfl ?_
            | refine AW_eq rfl rfl rfl ?_
            | refine AW_loadg rfl rfl rfl rfl ty_num rfl rfl rfl rfl ?_
            | refine AW_callg rfl rfl rfl rfl rfl (by first | exact ka) ?_
            | refine AW_nil (fun (h : false = true) => by cases h) ?_
            | refine AW_nil (fun (_ : true = true) => by kernel_rfl) ?_
            | refine Wp_block ?_
            | refine Wp_skip ?_
            | refine Wp_exit ?_
            | refine Wp_ret ?_
          exact ⟨.inr rfl, _, .tmp _ _ _ _ rfl .nil, rfl⟩
        | true =>
          rw [h3] at r3
          repeat first
            | refine Wp_seq ?_
            | refine Wp_region tm_mixed ?_
            | refine AW_move rfl rfl ?_
            | refine AW_assign rfl rfl ?_
            | refine AW_load rfl ty_num rfl rfl rfl rfl ?_
            | refine AW_store ty_num rfl rfl rfl rfl rfl rfl rfl ?_
            | refine AW_extract rfl rfl rfl ?_
            | refine AW_alloc rfl tz_num ?_
            | refine AW_box rfl rfl (row := true) rfl (fun h => by cases h) rfl ?_
            | refine AW_not rfl rfl ?_
            | refine AW_build rfl tb_num rfl ?_
            | refine AW_call rfl rfl (by first | exact ka | exact kl | exact r1 | exact r2 | exact r3) ?_
            | refine AW_ints rfl tu_nums ti_num ti_size ti_zero rfl rfl rfl (by first | exact .cons _ _ _ _ _ rfl (.cons _ _ _ _ _ rfl (.nil _)) | exact .cons _ _ _ _ _ rfl (.cons _ _ _ _ _ rfl (.cons _ _ _ _ _ rfl (.cons _ _ _ _ _ rfl (.nil _)))) | exact .cons _ _ _ _ _ rfl (.cons _ _ _ _ _ rfl (.cons _ _ _ _ _ rfl (.nil _))) | exact .cons _ _ _ _ _ rfl (.cons _ _ _ _ _ rfl (.cons _ _ _ _ _ rfl (.cons _ _ _ _ _ rfl (.cons _ _ _ _ _ rfl (.nil _)))))) ?_
            | refine AW_fieldAddr rfl tf_neg rfl rfl ?_ | refine AW_fieldAddr rfl tf_mag rfl rfl ?_ | refine AW_load rfl ty_bool rfl rfl rfl rfl ?_ | refine AW_load rfl ty_mag rfl rfl rfl rfl ?_ | refine AW_beq rfl Try.underlying4 rfl rfl ?_ | refine AW_bne rfl Try.underlying4 rfl rfl ?_ | refine AW_len rfl rfl Try.underlying22 ?_ | refine AW_ge rfl rfl rfl ?_ | refine AW_gt rfl rfl rfl ?_ | refine AW_store1 ty_bool rfl rfl rfl rfl rfl ?_
            | refine AW_pickT rfl rfl rfl ?_
            | refine AW_pickF rfl rfl rfl ?_
            | refine AW_skip rfl rfl rfl rfl ?_
            | refine AW_pickTg rfl rfl rfl rfl rfl rfl ?_
            | refine AW_pickFg rfl rfl rfl rfl rfl rfl ?_
            | refine AW_moveg rfl rfl rfl rfl rfl ?_
            | refine AW_notg rfl rfl rfl rfl rfl ?_
            | refine AW_eqg rfl rfl rfl rfl rfl rfl ?_
            | refine AW_eq rfl rfl rfl ?_
            | refine AW_loadg rfl rfl rfl rfl ty_num rfl rfl rfl rfl ?_
            | refine AW_callg rfl rfl rfl rfl rfl (by first | exact ka | exact kl | exact r1 | exact r2 | exact r3) ?_
            | refine AW_nil (fun (h : false = true) => by cases h) ?_
            | refine AW_nil (fun (_ : true = true) => by kernel_rfl) ?_
            | refine Wp_block ?_
            | refine Wp_skip ?_
            | refine Wp_exit ?_
            | refine Wp_ret ?_
          refine Wp_condF rfl ?_
          repeat first
            | refine Wp_seq ?_
            | refine Wp_region tm_mixed ?_
            | refine AW_move rfl rfl ?_
            | refine AW_assign rfl rfl ?_
            | refine AW_load rfl ty_num rfl rfl rfl rfl ?_
            | refine AW_store ty_num rfl rfl rfl rfl rfl rfl rfl ?_
            | refine AW_extract rfl rfl rfl ?_
            | refine AW_alloc rfl tz_num ?_
            | refine AW_box rfl rfl (row := true) rfl (fun h => by cases h) rfl ?_
            | refine AW_not rfl rfl ?_
            | refine AW_build rfl tb_num rfl ?_
            | refine AW_call rfl rfl (by first | exact ka | exact kl | exact r1 | exact r2 | exact r3) ?_
            | refine AW_ints rfl tu_nums ti_num ti_size ti_zero rfl rfl rfl (by first | exact .cons _ _ _ _ _ rfl (.cons _ _ _ _ _ rfl (.nil _)) | exact .cons _ _ _ _ _ rfl (.cons _ _ _ _ _ rfl (.cons _ _ _ _ _ rfl (.cons _ _ _ _ _ rfl (.nil _)))) | exact .cons _ _ _ _ _ rfl (.cons _ _ _ _ _ rfl (.cons _ _ _ _ _ rfl (.nil _))) | exact .cons _ _ _ _ _ rfl (.cons _ _ _ _ _ rfl (.cons _ _ _ _ _ rfl (.cons _ _ _ _ _ rfl (.cons _ _ _ _ _ rfl (.nil _)))))) ?_
            | refine AW_fieldAddr rfl tf_neg rfl rfl ?_ | refine AW_fieldAddr rfl tf_mag rfl rfl ?_ | refine AW_load rfl ty_bool rfl rfl rfl rfl ?_ | refine AW_load rfl ty_mag rfl rfl rfl rfl ?_ | refine AW_beq rfl Try.underlying4 rfl rfl ?_ | refine AW_bne rfl Try.underlying4 rfl rfl ?_ | refine AW_len rfl rfl Try.underlying22 ?_ | refine AW_ge rfl rfl rfl ?_ | refine AW_gt rfl rfl rfl ?_ | refine AW_store1 ty_bool rfl rfl rfl rfl rfl ?_
            | refine AW_pickT rfl rfl rfl ?_
            | refine AW_pickF rfl rfl rfl ?_
            | refine AW_skip rfl rfl rfl rfl ?_
            | refine AW_pickTg rfl rfl rfl rfl rfl rfl ?_
            | refine AW_pickFg rfl rfl rfl rfl rfl rfl ?_
            | refine AW_moveg rfl rfl rfl rfl rfl ?_
            | refine AW_notg rfl rfl rfl rfl rfl ?_
            | refine AW_eqg rfl rfl rfl rfl rfl rfl ?_
            | refine AW_eq rfl rfl rfl ?_
            | refine AW_loadg rfl rfl rfl rfl ty_num rfl rfl rfl rfl ?_
            | refine AW_callg rfl rfl rfl rfl rfl (by first | exact ka | exact kl | exact r1 | exact r2 | exact r3) ?_
            | refine AW_nil (fun (h : false = true) => by cases h) ?_
            | refine AW_nil (fun (_ : true = true) => by kernel_rfl) ?_
            | refine Wp_block ?_
            | refine Wp_skip ?_
            | refine Wp_exit ?_
            | refine Wp_ret ?_
          refine Wp_condF rfl ?_
          obtain ⟨a, rfl, la0⟩ := right_z hx h1
          obtain ⟨b, rfl, lb0⟩ := right_z hy h2
          obtain ⟨c, rfl, lc0⟩ := right_z hz h3
          have la : lc a.natAbs ≤ 16 := by omega
          have lb : lc b.natAbs ≤ 16 := by omega
          have lcc : lc c.natAbs ≤ 16 := by omega
          have lbc : lc (b * c).natAbs ≤ 32 := lc_times lb lcc
          have lac : lc (a * c).natAbs ≤ 32 := lc_times la lcc
          have lsum : lc (a + b * c).natAbs ≤ 33 := lc_plus (k := 32) (by omega) lbc
          have lg : lc (gcdZ a b).natAbs ≤ 16 := gcdZ_lc la lb
          have lh : lc (gcdZ b c).natAbs ≤ 16 := gcdZ_lc lb lcc
          have lgc : lc (gcdZ a b * c).natAbs ≤ 32 := lc_times lg lcc
          have g1 := ct_gOf a b (by omega) (by omega)
          have g2 := ct_gOf b a (by omega) (by omega)
          rw [gcdZ_comm] at g2
          have n1 := ct_Neg a (by omega)
          have g3 := ct_gOf (-a) b (by rw [Int.natAbs_neg]; omega) (by omega)
          rw [gcdZ_neg] at g3
          have m1 := ct_Mul0 b c (by omega) (by omega) (by omega)
          have m2 := ct_Mul0 a c (by omega) (by omega) (by omega)
          have p1 := ct_Add0 a (b * c) (by omega) (by omega) (by omega)
          have g4 := ct_gOf (a + b * c) b (by omega) (by omega)
          rw [gcdZ_more] at g4
          have g5 := ct_gOf (a * c) (b * c) (by omega) (by omega)
          rw [gcdZ_times] at g5
          have m3 := ct_Mul0 (gcdZ a b) c (by omega) (by omega) (by omega)
          have g6 := ct_gOf (gcdZ a b) c (by omega) (by omega)
          have g7 := ct_gOf b c (by omega) (by omega)
          have g8 := ct_gOf a (gcdZ b c) (by omega) (by omega)
          rw [← gcdZ_assoc] at g8
          have lr : lc (gcdZ (gcdZ a b) c).natAbs ≤ 16 := gcdZ_lc lg lcc
          have s1 := ct_SameT (rawOf (gcdZ a b)) (raw_len (by omega))
          have s2 := ct_SameT (rawOf ((gcdZ a b * c).natAbs : Int)) (raw_len (by rw [Int.natAbs_natCast]; omega))
          rw [raw_abs'] at s2
          rw [show zZ ((gcdZ a b * c).natAbs : Int) = aInt (false, (rawOf (gcdZ a b * c)).2) by show aInt (rawOf _) = _; rw [raw_abs']] at g5
          have s3 := ct_SameT (rawOf (gcdZ (gcdZ a b) c)) (raw_len (by omega))
          repeat first
            | refine Wp_seq ?_
            | refine Wp_region tm_mixed ?_
            | refine AW_move rfl rfl ?_
            | refine AW_assign rfl rfl ?_
            | refine AW_load rfl ty_num rfl rfl rfl rfl ?_
            | refine AW_store ty_num rfl rfl rfl rfl rfl rfl rfl ?_
            | refine AW_extract rfl rfl rfl ?_
            | refine AW_alloc rfl tz_num ?_
            | refine AW_box rfl rfl (row := true) rfl (fun h => by cases h) rfl ?_
            | refine AW_not rfl rfl ?_
            | refine AW_build rfl tb_num rfl ?_
            | refine AW_call rfl rfl (by first | exact g1 | exact g2 | exact n1 | exact g3 | exact m1 | exact m2 | exact p1 | exact g4 | exact g5 | exact m3 | exact g6 | exact g7 | exact g8 | exact s1 | exact s2 | exact s3) ?_
            | refine AW_ints rfl tu_nums ti_num ti_size ti_zero rfl rfl rfl (by first | exact .cons _ _ _ _ _ rfl (.cons _ _ _ _ _ rfl (.nil _)) | exact .cons _ _ _ _ _ rfl (.cons _ _ _ _ _ rfl (.cons _ _ _ _ _ rfl (.cons _ _ _ _ _ rfl (.nil _)))) | exact .cons _ _ _ _ _ rfl (.cons _ _ _ _ _ rfl (.cons _ _ _ _ _ rfl (.nil _))) | exact .cons _ _ _ _ _ rfl (.cons _ _ _ _ _ rfl (.cons _ _ _ _ _ rfl (.cons _ _ _ _ _ rfl (.cons _ _ _ _ _ rfl (.nil _)))))) ?_
            | refine AW_fieldAddr rfl tf_neg rfl rfl ?_ | refine AW_fieldAddr rfl tf_mag rfl rfl ?_ | refine AW_load rfl ty_bool rfl rfl rfl rfl ?_ | refine AW_load rfl ty_mag rfl rfl rfl rfl ?_ | refine AW_beq rfl Try.underlying4 rfl rfl ?_ | refine AW_bne rfl Try.underlying4 rfl rfl ?_ | refine AW_len rfl rfl Try.underlying22 ?_ | refine AW_ge rfl rfl rfl ?_ | refine AW_gt rfl rfl rfl ?_ | refine AW_store1 ty_bool rfl rfl rfl rfl rfl ?_
            | refine AW_pickT rfl rfl rfl ?_
            | refine AW_pickF rfl rfl rfl ?_
            | refine AW_skip rfl rfl rfl rfl ?_
            | refine AW_pickTg rfl rfl rfl rfl rfl rfl ?_
            | refine AW_pickFg rfl rfl rfl rfl rfl rfl ?_
            | refine AW_moveg rfl rfl rfl rfl rfl ?_
            | refine AW_notg rfl rfl rfl rfl rfl ?_
            | refine AW_eqg rfl rfl rfl rfl rfl rfl ?_
            | refine AW_eq rfl rfl rfl ?_
            | refine AW_loadg rfl rfl rfl rfl ty_num rfl rfl rfl rfl ?_
            | refine AW_callg rfl rfl rfl rfl rfl (by first | exact g1 | exact g2 | exact n1 | exact g3 | exact m1 | exact m2 | exact p1 | exact g4 | exact g5 | exact m3 | exact g6 | exact g7 | exact g8 | exact s1 | exact s2 | exact s3) ?_
            | refine AW_nil (fun (h : false = true) => by cases h) ?_
            | refine AW_nil (fun (_ : true = true) => by kernel_rfl) ?_
            | refine Wp_block ?_
            | refine Wp_skip ?_
            | refine Wp_exit ?_
            | refine Wp_ret ?_
          exact ⟨.inr rfl, _, .tmp _ _ _ _ rfl .nil, rfl⟩
end Go.Proofs.Ytonbhpadoplpkaa
/- Arguments are opened; what a call leaves reads as it read. -/
namespace Go.Proofs.Ytonbhpadoplpkaa
open Go.ChangeShapes Go.WideShapes Go.ChangeAt Go.RowKit Go.Deep
theorem laid_out : laidOutB Try.prog = true := by kernel_rfl
section
variable {H : Type} {enc : TypeId × Value → H}
theorem since_of_below {w w' : World} (h : Below w.heap.size w w') : w.Since w.heap.size w' := ⟨h.os, h.tape, h.output, h.size, h.block⟩
/-- What was read before reads so behind a call that wrote nothing old. -/
theorem stays {t : TypeId} (hr : Try.prog.readableRec t = true) (hrow : t < Try.prog.types.size) {W W' : World} {sp : Nat → Bool} {v : Value} {d : DataW H} {ps : List MemPlace}
    (h : DataW.Trod enc Try.prog W 0 (fun _ => true) true t v d ps) (hb : Below W.heap.size W W') (hl : ∀ p ∈ ps, p.block < W.heap.size) (hs : ∀ p ∈ ps, sp p.block = true) : DataW.Trod enc Try.prog W' 0 sp true t v d ps :=
  WideElems.Trod_stays laid_out hr hrow h (fun p hp => (since_of_below hb).sameAt (hl p hp)) hs
set_option maxRecDepth 10000 in
/-- The statement of a law's row, out of a walk that wrote nothing old. -/
theorem post_law {f : Func} {s : ChangeSpec} {W W' : World} {args : Array Value} {v : Value} {ds gs : List (DataW H)} {before : List MemPlace}
    (hW : DataW.Whole enc Try.prog f.params.toList s.vars false W args.toList ds gs before) (hb : Below W.heap.size W W')
    (hres : ∀ (b : Nat) (sp : Nat → Bool) (hd : Bool), DataW.TrodAll enc Try.prog W' b sp hd f.resultTypes.toList (v.resultList f.resultTypes.size) (s.fn H (ds ++ gs)).results [])
    (hargs : ∀ sp : Nat → Bool, (∀ p ∈ before, sp p.block = true) → DataW.TrodAll enc Try.prog W' 0 sp true f.params.toList args.toList (s.fn H (ds ++ gs)).args before)
    (hvars : ∀ sp : Nat → Bool, DataW.TrodVars enc Try.prog W' sp s.vars (s.fn H (ds ++ gs)).vars [])
    (hok : ∀ (j : Nat) (t : TypeId) (r : Value), f.resultTypes[j]? = some t → (v.resultList f.resultTypes.size)[j]? = some r → Value.okWide Try.prog W' .any 0 t r) :
    s.post enc Try.prog f false true false false W args v W' := by
  have hlt : ∀ p ∈ before, p.block < W.heap.size := fun p hp => hW.lt p hp
  have hold : ∀ p ∈ before, (fun b => decide (b < W.heap.size)) p.block = true := fun p hp => by simpa using hlt p hp
  refine ⟨ds, gs, before, [], before, [], hW, hres _ _ _, hargs _ hold, hvars _, World.keptBut_mono (fun p hp => ⟨hp, .inr (.inl hp)⟩) ((since_of_below hb).frame (· ∈ before)), fun _ => ?_⟩
  obtain ⟨_, _, _, _, _, hz, _⟩ := hW
  refine ⟨hok, _, _, ([] ++ before) ++ [], ⟨[] ++ before, [], trodAll_append (hargs _ (fun _ _ => rfl)) (hres _ _ _), hvars _, rfl, ?_, fun h => by cases h⟩, fun p hp _ => by simpa using hp⟩
  intro b off hp
  have hp' : MemPlace.cell b off ∈ before := by simpa using hp
  rw [(since_of_below hb).frozen (a := ⟨b, off, none⟩) (hlt _ hp')]
  exact hz b off hp'
theorem cells_rec : Try.prog.cellsOf 24 = 2 := by kernel_rfl
theorem cells_u64 : Try.prog.cellsOf 53 = 1 := by kernel_rfl
theorem cells_bool : Try.prog.cellsOf 4 = 1 := by kernel_rfl
theorem cells_limbs : Try.prog.cellsOf 22 = 1 := by kernel_rfl
/-- A slice of limbs that came in. -/
theorem open_limbs {W : World} {v : Value} {x : DataW H × List MemPlace} {n : Nat} (h : DataW.trod enc Try.prog W 0 (fun _ => true) true n 22 [v] = some x) : ∃ A l c xs, v = .slice A l c ∧ l = xs.length ∧ l ≤ c ∧ Lim W W.heap.size A xs := by
  rcases open_ints (k := .u64) Try.underlying22 Try.underlying53 cells_u64 h with ⟨e, _⟩ | ⟨a, len, cap, zs, e, _, hl, hm, hzl, _, hc, hwf⟩
  · injection e with e
    exact ⟨none, 0, 0, [], e, rfl, Nat.le_refl _, Lim.nil _ _ _⟩
  · injection e with e
    simp only [if_true] at hzl
    have hnn : ∀ z ∈ zs, 0 ≤ z ∧ z < 18446744073709551616 := by
      intro z hz
      have h1 := hwf z hz
      simp only [Lit.wf, IntKind.min, IntKind.max, IntKind.signed, IntKind.bits, Bool.and_eq_true] at h1
      obtain ⟨h2, h3⟩ := h1
      simp at h2 h3
      omega
    refine ⟨some a, len, cap, (zs.take len).map Int.toNat, e, by simp; omega, hl, ?_, fun hp => ⟨a, rfl, ?_, fun j hj => ?_⟩⟩
    · intro y hy
      obtain ⟨z, hz, rfl⟩ := List.mem_map.1 hy
      have h1 := hnn z (List.mem_of_mem_take hz)
      rw [W64_eq]; omega
    · simp at hp
      have h1 := hc 0 (by omega)
      have h2 := World.block_lt_of_cell? W (a.add 0) h1
      rwa [block_of_add] at h2
    · simp at hj
      rw [hc j (by omega)]
      have h1 := hnn (zs.getD j 0) (by
        rw [List.getD_eq_getElem?_getD, List.getElem?_eq_getElem (by omega)]; exact List.getElem_mem _)
      have e1 : ((zs.take len).map Int.toNat).getD j 0 = (zs.getD j 0).toNat := by
        have h2 : j < len := by omega
        have h3 : j < zs.length := by omega
        simp [h2, h3]
      rw [e1]
      congr 2
      omega
set_option maxRecDepth 100000 in
/-- A record that came in. -/
theorem open_raw {W : World} {base : Nat} {v : Value} {d : DataW H} {ps : List MemPlace} (hv : Value.okWide Try.prog W .any base 24 v) (h : DataW.Trod enc Try.prog W 0 (fun _ => true) true 24 v d ps) : ∃ b A l c xs, v = .agg #[.bool b, .slice A l c] ∧ l = xs.length ∧ l ≤ c ∧ Lim W W.heap.size A xs := by
  obtain ⟨cs, rfl, hsz⟩ := okWide_struct Try.underlying24 hv
  rw [cells_rec] at hsz
  obtain ⟨fuel, hf⟩ := h
  obtain ⟨x, y, rfl⟩ : ∃ x y, cs = #[x, y] := by
    obtain ⟨l⟩ := cs
    match l, hsz with
    | [x, y], _ => exact ⟨x, y, rfl⟩
  obtain ⟨xs, k, hk, hxy, _, hxl, hg⟩ := DataW.trod_struct Try.underlying24 hf
  match xs, hxl with
  | [y0, y1], _ =>
    have g0 := hg 0 _ rfl
    have g1 := hg 1 _ rfl
    simp [Value.cells, cells_bool, cells_limbs] at g0 g1
    obtain ⟨b, e0, _⟩ := DataW.trod_bool Try.underlying4 g0
    obtain ⟨A, l, c, xs, e1, hl1, hc1, hlim⟩ := open_limbs g1
    injection e0 with e0
    exact ⟨b, A, l, c, xs, by rw [e0, e1], hl1, hc1, hlim⟩
end
end Go.Proofs.Ytonbhpadoplpkaa
