import Derived.Test.YtonbhpadoplpkaaGreatRe
import Derived.Test.YtonbhpadoplpkaaGreatProg
import Derived.WalkKit
import Derived.Laws.OwnMore
import Derived.Deep.Draws
import Derived.Deep.OwnRows
import Derived.Deep.LoopGhost
import Derived.Deep.QuietTactic
import Derived.BigQuiet
import Derived.Lib.Hide
import Derived.Maps.AppendAt
import Derived.Laws.Rows
import Derived.OneCell
import Derived.Shelf.Spec.BitsCarry
import Derived.Deep.DeepCutAuto
import Derived.Shelf.Small.Bits
import Derived.Shelf.Strconv.Itoa0
import Derived.Shelf.Bits.Mul64
import Derived.Lib.BitFns
import Derived.Deep.CutBlock
import Derived.BigRegion
import Derived.StillTailTactics
import Derived.Deep.AppendLies
import Derived.Orders
import Derived.Lib.SliceRun
import Derived.Deep.MidRow
import Derived.BigCall
import Derived.Great.BuildSlice
import Derived.Deep.RegionWith
import Derived.WalkMore
import Derived.Laws.EntriesVeiled
import Derived.Laws.CopyOwn
import Derived.Test.YtonbhpadoplpkaaGreatRows
import Derived.ProofKit
import Derived.OpenShut
import Derived.Deep.SlicePairs
import Derived.WideKeyArgs
/- Of: Law20r, Row. -/
/- The law of layer 20: differs, GcdRests; Join of what is no modulus. -/
namespace Go.Proofs.YtonbhpadoplpkaaGreat
open Go.RowKit Go.Deep
set_option maxHeartbeats 1000000 in
set_option maxRecDepth 100000 in
theorem ct_gJoin_low (r m s n : Int) (hr : lc r.natAbs ≤ 90) (hm : lc m.natAbs ≤ 90) (hs : lc s.natAbs ≤ 90) (hn : lc n.natAbs ≤ 90) (h : m ≤ 0 ∨ n ≤ 0) :
    Ct Tryz.prog 34 [aZ r, aZ m, aZ s, aZ n] (.tup [aInt (false, []), aInt (false, []), aI 2]) := by
  have kR := ct_right [rawOf r, rawOf m, rawOf s, rawOf n] (Nat.le_of_ble_eq_true rfl)
  have e0 : [rawOf r, rawOf m, rawOf s, rawOf n].all rightInt = true := by
    simp [right_raw (Nat.le_trans hr (by decide)), right_raw (Nat.le_trans hm (by decide)), right_raw (Nat.le_trans hs (by decide)), right_raw (Nat.le_trans hn (by decide))]
  rw [e0] at kR
  refine ct_of_wp [.cell 8 24, .cell 9 24, .tmp 10] [(0, aZ r), (1, aZ m), (2, aZ s), (3, aZ n)] 168 Tryz.func34 rfl rfl rfl rfl rfl rfl rfl rfl ?_
  intro G0 w0
  by_cases m0 : m < 0
  · have hM := signT m0
    have hN := hM
    have kz1 := kR
    have kz2 := kR
    repeat first
      | refine Wp_seq ?_
      | refine Wp_region tm_mixed ?_
      | refine AW_move rfl rfl ?_
      | refine AW_assign rfl rfl ?_
      | refine AW_load rfl ty_num rfl rfl rfl rfl ?_
      | refine AW_store ty_num rfl rfl rfl rfl rfl rfl rfl ?_
      | refine AW_extract rfl rfl rfl ?_
      | refine AW_alloc rfl tz_num ?_
      | refine AW_box rfl rfl (row := true) rfl (fun h => by cases h) rfl ?_
      | refine AW_not rfl rfl ?_
      | refine AW_build rfl tb_num rfl ?_
      | refine AW_call rfl rfl (by first | exact kR | exact kz1 | exact kz2) ?_
      | refine AW_ints rfl tu_nums ti_num ti_size ti_zero rfl rfl rfl (by first | exact .cons _ _ _ _ _ rfl (.cons _ _ _ _ _ rfl (.nil _)) | exact .cons _ _ _ _ _ rfl (.cons _ _ _ _ _ rfl (.cons _ _ _ _ _ rfl (.cons _ _ _ _ _ rfl (.nil _)))) | exact .cons _ _ _ _ _ rfl (.cons _ _ _ _ _ rfl (.cons _ _ _ _ _ rfl (.nil _))) | exact .cons _ _ _ _ _ rfl (.cons _ _ _ _ _ rfl (.cons _ _ _ _ _ rfl (.cons _ _ _ _ _ rfl (.cons _ _ _ _ _ rfl (.nil _)))))) ?_
      | refine AW_loadg rfl rfl rfl rfl ty_bool rfl rfl rfl hM ?_ | refine AW_loadg rfl rfl rfl rfl ty_bool rfl rfl rfl hN ?_ | refine AW_fieldAddrg rfl rfl rfl rfl tf_neg rfl rfl ?_
      | refine AW_pickT rfl rfl rfl ?_
      | refine AW_pickF rfl rfl rfl ?_
      | refine AW_skip rfl rfl rfl rfl ?_
      | refine AW_pickTg rfl rfl rfl rfl rfl rfl ?_
      | refine AW_pickFg rfl rfl rfl rfl rfl rfl ?_
      | refine AW_moveg rfl rfl rfl rfl rfl ?_
      | refine AW_notg rfl rfl rfl rfl rfl ?_
      | refine AW_eqg rfl rfl rfl rfl rfl rfl ?_
      | refine AW_eq rfl rfl rfl ?_
      | refine AW_loadg rfl rfl rfl rfl ty_num rfl rfl rfl rfl ?_
      | refine AW_callg rfl rfl rfl rfl rfl (by first | exact kR | exact kz1 | exact kz2) ?_
      | refine AW_nil (fun (h : false = true) => by cases h) ?_
      | refine AW_nil (fun (_ : true = true) => by kernel_rfl) ?_
      | refine Wp_block ?_
      | refine Wp_skip ?_
      | refine Wp_exit ?_
      | refine Wp_ret ?_
    refine Wp_condT rfl ?_
    repeat first
      | refine Wp_seq ?_
      | refine Wp_region tm_mixed ?_
      | refine AW_move rfl rfl ?_
      | refine AW_assign rfl rfl ?_
      | refine AW_load rfl ty_num rfl rfl rfl rfl ?_
      | refine AW_store ty_num rfl rfl rfl rfl rfl rfl rfl ?_
      | refine AW_extract rfl rfl rfl ?_
      | refine AW_alloc rfl tz_num ?_
      | refine AW_box rfl rfl (row := true) rfl (fun h => by cases h) rfl ?_
      | refine AW_not rfl rfl ?_
      | refine AW_build rfl tb_num rfl ?_
      | refine AW_call rfl rfl (by first | exact kR | exact kz1 | exact kz2) ?_
      | refine AW_ints rfl tu_nums ti_num ti_size ti_zero rfl rfl rfl (by first | exact .cons _ _ _ _ _ rfl (.cons _ _ _ _ _ rfl (.nil _)) | exact .cons _ _ _ _ _ rfl (.cons _ _ _ _ _ rfl (.cons _ _ _ _ _ rfl (.cons _ _ _ _ _ rfl (.nil _)))) | exact .cons _ _ _ _ _ rfl (.cons _ _ _ _ _ rfl (.cons _ _ _ _ _ rfl (.nil _))) | exact .cons _ _ _ _ _ rfl (.cons _ _ _ _ _ rfl (.cons _ _ _ _ _ rfl (.cons _ _ _ _ _ rfl (.cons _ _ _ _ _ rfl (.nil _)))))) ?_
      | refine AW_loadg rfl rfl rfl rfl ty_bool rfl rfl rfl hM ?_ | refine AW_loadg rfl rfl rfl rfl ty_bool rfl rfl rfl hN ?_ | refine AW_fieldAddrg rfl rfl rfl rfl tf_neg rfl rfl ?_
      | refine AW_pickT rfl rfl rfl ?_
      | refine AW_pickF rfl rfl rfl ?_
      | refine AW_skip rfl rfl rfl rfl ?_
      | refine AW_pickTg rfl rfl rfl rfl rfl rfl ?_
      | refine AW_pickFg rfl rfl rfl rfl rfl rfl ?_
      | refine AW_moveg rfl rfl rfl rfl rfl ?_
      | refine AW_notg rfl rfl rfl rfl rfl ?_
      | refine AW_eqg rfl rfl rfl rfl rfl rfl ?_
      | refine AW_eq rfl rfl rfl ?_
      | refine AW_loadg rfl rfl rfl rfl ty_num rfl rfl rfl rfl ?_
      | refine AW_callg rfl rfl rfl rfl rfl (by first | exact kR | exact kz1 | exact kz2) ?_
      | refine AW_nil (fun (h : false = true) => by cases h) ?_
      | refine AW_nil (fun (_ : true = true) => by kernel_rfl) ?_
      | refine Wp_block ?_
      | refine Wp_skip ?_
      | refine Wp_exit ?_
      | refine Wp_ret ?_
    exact ⟨.inr rfl, _, .cell _ _ _ _ _ _ _ _ _ _ _ ty_num rfl rfl rfl (.cell _ _ _ _ _ _ _ _ _ _ _ ty_num rfl rfl rfl (.tmp _ _ _ _ rfl .nil)), rfl⟩
  · have hM := signF (z := m) (by omega)
    by_cases n0 : n < 0
    · have hN := signT n0
      have kz1 := kR
      have kz2 := kR
      repeat first
        | refine Wp_seq ?_
        | refine Wp_region tm_mixed ?_
        | refine AW_move rfl rfl ?_
        | refine AW_assign rfl rfl ?_
        | refine AW_load rfl ty_num rfl rfl rfl rfl ?_
        | refine AW_store ty_num rfl rfl rfl rfl rfl rfl rfl ?_
        | refine AW_extract rfl rfl rfl ?_
        | refine AW_alloc rfl tz_num ?_
        | refine AW_box rfl rfl (row := true) rfl (fun h => by cases h) rfl ?_
        | refine AW_not rfl rfl ?_
        | refine AW_build rfl tb_num rfl ?_
        | refine AW_call rfl rfl (by first | exact kR | exact kz1 | exact kz2) ?_
        | refine AW_ints rfl tu_nums ti_num ti_size ti_zero rfl rfl rfl (by first | exact .cons _ _ _ _ _ rfl (.cons _ _ _ _ _ rfl (.nil _)) | exact .cons _ _ _ _ _ rfl (.cons _ _ _ _ _ rfl (.cons _ _ _ _ _ rfl (.cons _ _ _ _ _ rfl (.nil _)))) | exact .cons _ _ _ _ _ rfl (.cons _ _ _ _ _ rfl (.cons _ _ _ _ _ rfl (.nil _))) | exact .cons _ _ _ _ _ rfl (.cons _ _ _ _ _ rfl (.cons _ _ _ _ _ rfl (.cons _ _ _ _ _ rfl (.cons _ _ _ _ _ rfl (.nil _)))))) ?_
        | refine AW_loadg rfl rfl rfl rfl ty_bool rfl rfl rfl hM ?_ | refine AW_loadg rfl rfl rfl rfl ty_bool rfl rfl rfl hN ?_ | refine AW_fieldAddrg rfl rfl rfl rfl tf_neg rfl rfl ?_
        | refine AW_pickT rfl rfl rfl ?_
        | refine AW_pickF rfl rfl rfl ?_
        | refine AW_skip rfl rfl rfl rfl ?_
        | refine AW_pickTg rfl rfl rfl rfl rfl rfl ?_
        | refine AW_pickFg rfl rfl rfl rfl rfl rfl ?_
        | refine AW_moveg rfl rfl rfl rfl rfl ?_
        | refine AW_notg rfl rfl rfl rfl rfl ?_
        | refine AW_eqg rfl rfl rfl rfl rfl rfl ?_
        | refine AW_eq rfl rfl rfl ?_
        | refine AW_loadg rfl rfl rfl rfl ty_num rfl rfl rfl rfl ?_
        | refine AW_callg rfl rfl rfl rfl rfl (by first | exact kR | exact kz1 | exact kz2) ?_
        | refine AW_nil (fun (h : false = true) => by cases h) ?_
        | refine AW_nil (fun (_ : true = true) => by kernel_rfl) ?_
        | refine Wp_block ?_
        | refine Wp_skip ?_
        | refine Wp_exit ?_
        | refine Wp_ret ?_
      refine Wp_condT rfl ?_
      repeat first
        | refine Wp_seq ?_
        | refine Wp_region tm_mixed ?_
        | refine AW_move rfl rfl ?_
        | refine AW_assign rfl rfl ?_
        | refine AW_load rfl ty_num rfl rfl rfl rfl ?_
        | refine AW_store ty_num rfl rfl rfl rfl rfl rfl rfl ?_
        | refine AW_extract rfl rfl rfl ?_
        | refine AW_alloc rfl tz_num ?_
        | refine AW_box rfl rfl (row := true) rfl (fun h => by cases h) rfl ?_
        | refine AW_not rfl rfl ?_
        | refine AW_build rfl tb_num rfl ?_
        | refine AW_call rfl rfl (by first | exact kR | exact kz1 | exact kz2) ?_
        | refine AW_ints rfl tu_nums ti_num ti_size ti_zero rfl rfl rfl (by first | exact .cons _ _ _ _ _ rfl (.cons _ _ _ _ _ rfl (.nil _)) | exact .cons _ _ _ _ _ rfl (.cons _ _ _ _ _ rfl (.cons _ _ _ _ _ rfl (.cons _ _ _ _ _ rfl (.nil _)))) | exact .cons _ _ _ _ _ rfl (.cons _ _ _ _ _ rfl (.cons _ _ _ _ _ rfl (.nil _))) | exact .cons _ _ _ _ _ rfl (.cons _ _ _ _ _ rfl (.cons _ _ _ _ _ rfl (.cons _ _ _ _ _ rfl (.cons _ _ _ _ _ rfl (.nil _)))))) ?_
        | refine AW_loadg rfl rfl rfl rfl ty_bool rfl rfl rfl hM ?_ | refine AW_loadg rfl rfl rfl rfl ty_bool rfl rfl rfl hN ?_ | refine AW_fieldAddrg rfl rfl rfl rfl tf_neg rfl rfl ?_
        | refine AW_pickT rfl rfl rfl ?_
        | refine AW_pickF rfl rfl rfl ?_
        | refine AW_skip rfl rfl rfl rfl ?_
        | refine AW_pickTg rfl rfl rfl rfl rfl rfl ?_
        | refine AW_pickFg rfl rfl rfl rfl rfl rfl ?_
        | refine AW_moveg rfl rfl rfl rfl rfl ?_
        | refine AW_notg rfl rfl rfl rfl rfl ?_
        | refine AW_eqg rfl rfl rfl rfl rfl rfl ?_
        | refine AW_eq rfl rfl rfl ?_
        | refine AW_loadg rfl rfl rfl rfl ty_num rfl rfl rfl rfl ?_
        | refine AW_callg rfl rfl rfl rfl rfl (by first | exact kR | exact kz1 | exact kz2) ?_
        | refine AW_nil (fun (h : false = true) => by cases h) ?_
        | refine AW_nil (fun (_ : true = true) => by kernel_rfl) ?_
        | refine Wp_block ?_
        | refine Wp_skip ?_
        | refine Wp_exit ?_
        | refine Wp_ret ?_
      exact ⟨.inr rfl, _, .cell _ _ _ _ _ _ _ _ _ _ _ ty_num rfl rfl rfl (.cell _ _ _ _ _ _ _ _ _ _ _ ty_num rfl rfl rfl (.tmp _ _ _ _ rfl .nil)), rfl⟩
    · have hN := signF (z := n) (by omega)
      by_cases m1 : m = 0
      · have kz1 := ct_gzeroT m m1
        have kz2 := kz1
        repeat first
          | refine Wp_seq ?_
          | refine Wp_region tm_mixed ?_
          | refine AW_move rfl rfl ?_
          | refine AW_assign rfl rfl ?_
          | refine AW_load rfl ty_num rfl rfl rfl rfl ?_
          | refine AW_store ty_num rfl rfl rfl rfl rfl rfl rfl ?_
          | refine AW_extract rfl rfl rfl ?_
          | refine AW_alloc rfl tz_num ?_
          | refine AW_box rfl rfl (row := true) rfl (fun h => by cases h) rfl ?_
          | refine AW_not rfl rfl ?_
          | refine AW_build rfl tb_num rfl ?_
          | refine AW_call rfl rfl (by first | exact kR | exact kz1 | exact kz2) ?_
          | refine AW_ints rfl tu_nums ti_num ti_size ti_zero rfl rfl rfl (by first | exact .cons _ _ _ _ _ rfl (.cons _ _ _ _ _ rfl (.nil _)) | exact .cons _ _ _ _ _ rfl (.cons _ _ _ _ _ rfl (.cons _ _ _ _ _ rfl (.cons _ _ _ _ _ rfl (.nil _)))) | exact .cons _ _ _ _ _ rfl (.cons _ _ _ _ _ rfl (.cons _ _ _ _ _ rfl (.nil _))) | exact .cons _ _ _ _ _ rfl (.cons _ _ _ _ _ rfl (.cons _ _ _ _ _ rfl (.cons _ _ _ _ _ rfl (.cons _ _ _ _ _ rfl (.nil _)))))) ?_
          | refine AW_loadg rfl rfl rfl rfl ty_bool rfl rfl rfl hM ?_ | refine AW_loadg rfl rfl rfl rfl ty_bool rfl rfl rfl hN ?_ | refine AW_fieldAddrg rfl rfl rfl rfl tf_neg rfl rfl ?_
          | refine AW_pickT rfl rfl rfl ?_
          | refine AW_pickF rfl rfl rfl ?_
          | refine AW_skip rfl rfl rfl rfl ?_
          | refine AW_pickTg rfl rfl rfl rfl rfl rfl ?_
          | refine AW_pickFg rfl rfl rfl rfl rfl rfl ?_
          | refine AW_moveg rfl rfl rfl rfl rfl ?_
          | refine AW_notg rfl rfl rfl rfl rfl ?_
          | refine AW_eqg rfl rfl rfl rfl rfl rfl ?_
          | refine AW_eq rfl rfl rfl ?_
          | refine AW_loadg rfl rfl rfl rfl ty_num rfl rfl rfl rfl ?_
          | refine AW_callg rfl rfl rfl rfl rfl (by first | exact kR | exact kz1 | exact kz2) ?_
          | refine AW_nil (fun (h : false = true) => by cases h) ?_
          | refine AW_nil (fun (_ : true = true) => by kernel_rfl) ?_
          | refine Wp_block ?_
          | refine Wp_skip ?_
          | refine Wp_exit ?_
          | refine Wp_ret ?_
        refine Wp_condT rfl ?_
        repeat first
          | refine Wp_seq ?_
          | refine Wp_region tm_mixed ?_
          | refine AW_move rfl rfl ?_
          | refine AW_assign rfl rfl ?_
          | refine AW_load rfl ty_num rfl rfl rfl rfl ?_
          | refine AW_store ty_num rfl rfl rfl rfl rfl rfl rfl ?_
          | refine AW_extract rfl rfl rfl ?_
          | refine AW_alloc rfl tz_num ?_
          | refine AW_box rfl rfl (row := true) rfl (fun h => by cases h) rfl ?_
          | refine AW_not rfl rfl ?_
          | refine AW_build rfl tb_num rfl ?_
          | refine AW_call rfl rfl (by first | exact kR | exact kz1 | exact kz2) ?_
          | refine AW_ints rfl tu_nums ti_num ti_size ti_zero rfl rfl rfl (by first | exact .cons _ _ _ _ _ rfl (.cons _ _ _ _ _ rfl (.nil _)) | exact .cons _ _ _ _ _ rfl (.cons _ _ _ _ _ rfl (.cons _ _ _ _ _ rfl (.cons _ _ _ _ _ rfl (.nil _)))) | exact .cons _ _ _ _ _ rfl (.cons _ _ _ _ _ rfl (.cons _ _ _ _ _ rfl (.nil _))) | exact .cons _ _ _ _ _ rfl (.cons _ _ _ _ _ rfl (.cons _ _ _ _ _ rfl (.cons _ _ _ _ _ rfl (.cons _ _ _ _ _ rfl (.nil _)))))) ?_
          | refine AW_loadg rfl rfl rfl rfl ty_bool rfl rfl rfl hM ?_ | refine AW_loadg rfl rfl rfl rfl ty_bool rfl rfl rfl hN ?_ | refine AW_fieldAddrg rfl rfl rfl rfl tf_neg rfl rfl ?_
          | refine AW_pickT rfl rfl rfl ?_
          | refine AW_pickF rfl rfl rfl ?_
          | refine AW_skip rfl rfl rfl rfl ?_
          | refine AW_pickTg rfl rfl rfl rfl rfl rfl ?_
          | refine AW_pickFg rfl rfl rfl rfl rfl rfl ?_
          | refine AW_moveg rfl rfl rfl rfl rfl ?_
          | refine AW_notg rfl rfl rfl rfl rfl ?_
          | refine AW_eqg rfl rfl rfl rfl rfl rfl ?_
          | refine AW_eq rfl rfl rfl ?_
          | refine AW_loadg rfl rfl rfl rfl ty_num rfl rfl rfl rfl ?_
          | refine AW_callg rfl rfl rfl rfl rfl (by first | exact kR | exact kz1 | exact kz2) ?_
          | refine AW_nil (fun (h : false = true) => by cases h) ?_
          | refine AW_nil (fun (_ : true = true) => by kernel_rfl) ?_
          | refine Wp_block ?_
          | refine Wp_skip ?_
          | refine Wp_exit ?_
          | refine Wp_ret ?_
        exact ⟨.inr rfl, _, .cell _ _ _ _ _ _ _ _ _ _ _ ty_num rfl rfl rfl (.cell _ _ _ _ _ _ _ _ _ _ _ ty_num rfl rfl rfl (.tmp _ _ _ _ rfl .nil)), rfl⟩
      · have kz1 := ct_gzeroF m m1
        have kz2 := ct_gzeroT n (by omega)
        repeat first
          | refine Wp_seq ?_
          | refine Wp_region tm_mixed ?_
          | refine AW_move rfl rfl ?_
          | refine AW_assign rfl rfl ?_
          | refine AW_load rfl ty_num rfl rfl rfl rfl ?_
          | refine AW_store ty_num rfl rfl rfl rfl rfl rfl rfl ?_
          | refine AW_extract rfl rfl rfl ?_
          | refine AW_alloc rfl tz_num ?_
          | refine AW_box rfl rfl (row := true) rfl (fun h => by cases h) rfl ?_
          | refine AW_not rfl rfl ?_
          | refine AW_build rfl tb_num rfl ?_
          | refine AW_call rfl rfl (by first | exact kR | exact kz1 | exact kz2) ?_
          | refine AW_ints rfl tu_nums ti_num ti_size ti_zero rfl rfl rfl (by first | exact .cons _ _ _ _ _ rfl (.cons _ _ _ _ _ rfl (.nil _)) | exact .cons _ _ _ _ _ rfl (.cons _ _ _ _ _ rfl (.cons _ _ _ _ _ rfl (.cons _ _ _ _ _ rfl (.nil _)))) | exact .cons _ _ _ _ _ rfl (.cons _ _ _ _ _ rfl (.cons _ _ _ _ _ rfl (.nil _))) | exact .cons _ _ _ _ _ rfl (.cons _ _ _ _ _ rfl (.cons _ _ _ _ _ rfl (.cons _ _ _ _ _ rfl (.cons _ _ _ _ _ rfl (.nil _)))))) ?_
          | refine AW_loadg rfl rfl rfl rfl ty_bool rfl rfl rfl hM ?_ | refine AW_loadg rfl rfl rfl rfl ty_bool rfl rfl rfl hN ?_ | refine AW_fieldAddrg rfl rfl rfl rfl tf_neg rfl rfl ?_
          | refine AW_pickT rfl rfl rfl ?_
          | refine AW_pickF rfl rfl rfl ?_
          | refine AW_skip rfl rfl rfl rfl ?_
          | refine AW_pickTg rfl rfl rfl rfl rfl rfl ?_
          | refine AW_pickFg rfl rfl rfl rfl rfl rfl ?_
          | refine AW_moveg rfl rfl rfl rfl rfl ?_
          | refine AW_notg rfl rfl rfl rfl rfl ?_
          | refine AW_eqg rfl rfl rfl rfl rfl rfl ?_
          | refine AW_eq rfl rfl rfl ?_
          | refine AW_loadg rfl rfl rfl rfl ty_num rfl rfl rfl rfl ?_
          | refine AW_callg rfl rfl rfl rfl rfl (by first | exact kR | exact kz1 | exact kz2) ?_
          | refine AW_nil (fun (h : false = true) => by cases h) ?_
          | refine AW_nil (fun (_ : true = true) => by kernel_rfl) ?_
          | refine Wp_block ?_
          | refine Wp_skip ?_
          | refine Wp_exit ?_
          | refine Wp_ret ?_
        refine Wp_condT rfl ?_
        repeat first
          | refine Wp_seq ?_
          | refine Wp_region tm_mixed ?_
          | refine AW_move rfl rfl ?_
          | refine AW_assign rfl rfl ?_
          | refine AW_load rfl ty_num rfl rfl rfl rfl ?_
          | refine AW_store ty_num rfl rfl rfl rfl rfl rfl rfl ?_
          | refine AW_extract rfl rfl rfl ?_
          | refine AW_alloc rfl tz_num ?_
          | refine AW_box rfl rfl (row := true) rfl (fun h => by cases h) rfl ?_
          | refine AW_not rfl rfl ?_
          | refine AW_build rfl tb_num rfl ?_
          | refine AW_call rfl rfl (by first | exact kR | exact kz1 | exact kz2) ?_
          | refine AW_ints rfl tu_nums ti_num ti_size ti_zero rfl rfl rfl (by first | exact .cons _ _ _ _ _ rfl (.cons _ _ _ _ _ rfl (.nil _)) | exact .cons _ _ _ _ _ rfl (.cons _ _ _ _ _ rfl (.cons _ _ _ _ _ rfl (.cons _ _ _ _ _ rfl (.nil _)))) | exact .cons _ _ _ _ _ rfl (.cons _ _ _ _ _ rfl (.cons _ _ _ _ _ rfl (.nil _))) | exact .cons _ _ _ _ _ rfl (.cons _ _ _ _ _ rfl (.cons _ _ _ _ _ rfl (.cons _ _ _ _ _ rfl (.cons _ _ _ _ _ rfl (.nil _)))))) ?_
          | refine AW_loadg rfl rfl rfl rfl ty_bool rfl rfl rfl hM ?_ | refine AW_loadg rfl rfl rfl rfl ty_bool rfl rfl rfl hN ?_ | refine AW_fieldAddrg rfl rfl rfl rfl tf_neg rfl rfl ?_
          | refine AW_pickT rfl rfl rfl ?_
          | refine AW_pickF rfl rfl rfl ?_
          | refine AW_skip rfl rfl rfl rfl ?_
          | refine AW_pickTg rfl rfl rfl rfl rfl rfl ?_
          | refine AW_pickFg rfl rfl rfl rfl rfl rfl ?_
          | refine AW_moveg rfl rfl rfl rfl rfl ?_
          | refine AW_notg rfl rfl rfl rfl rfl ?_
          | refine AW_eqg rfl rfl rfl rfl rfl rfl ?_
          | refine AW_eq rfl rfl rfl ?_
          | refine AW_loadg rfl rfl rfl rfl ty_num rfl rfl rfl rfl ?_
          | refine AW_callg rfl rfl rfl rfl rfl (by first | exact kR | exact kz1 | exact kz2) ?_
          | refine AW_nil (fun (h : false = true) => by cases h) ?_
          | refine AW_nil (fun (_ : true = true) => by kernel_rfl) ?_
          | refine Wp_block ?_
          | refine Wp_skip ?_
          | refine Wp_exit ?_
          | refine Wp_ret ?_
        exact ⟨.inr rfl, _, .cell _ _ _ _ _ _ _ _ _ _ _ ty_num rfl rfl rfl (.cell _ _ _ _ _ _ _ _ _ _ _ ty_num rfl rfl rfl (.tmp _ _ _ _ rfl .nil)), rfl⟩
set_option maxRecDepth 100000 in
theorem ct_differs (a b m : Int) (ha : lc a.natAbs ≤ 1000) (hb : lc b.natAbs ≤ 1000) (hm : lc m.natAbs ≤ 1000) : Ct Tryz.prog 44 [aZ a, aZ b, aZ m] (.val (aB (dvdB m (a - b)))) := by
  refine ct_of_wp [.tmp 6] [(0, aZ a), (1, aZ b), (2, aZ m)] 22 Tryz.func44 rfl rfl rfl rfl rfl rfl rfl rfl ?_
  intro G0 w0
  have l1 : lc (a - b).natAbs ≤ 1001 := lc_sub ha hb
  have k1 := ct_Sub0 a b (by omega) (by omega) (by omega)
  have k2 := ct_divides m (a - b) (by omega) (by omega)
  repeat first
    | refine Wp_seq ?_
    | refine Wp_region tm_mixed ?_
    | refine AW_move rfl rfl ?_
    | refine AW_assign rfl rfl ?_
    | refine AW_load rfl ty_num rfl rfl rfl rfl ?_
    | refine AW_store ty_num rfl rfl rfl rfl rfl rfl rfl ?_
    | refine AW_extract rfl rfl rfl ?_
    | refine AW_alloc rfl tz_num ?_
    | refine AW_box rfl rfl (row := true) rfl (fun h => by cases h) rfl ?_
    | refine AW_not rfl rfl ?_
    | refine AW_build rfl tb_num rfl ?_
    | refine AW_call rfl rfl (by first | exact k1 | exact k2) ?_
    | refine AW_ints rfl tu_nums ti_num ti_size ti_zero rfl rfl rfl (by first | exact .cons _ _ _ _ _ rfl (.cons _ _ _ _ _ rfl (.nil _)) | exact .cons _ _ _ _ _ rfl (.cons _ _ _ _ _ rfl (.cons _ _ _ _ _ rfl (.cons _ _ _ _ _ rfl (.nil _)))) | exact .cons _ _ _ _ _ rfl (.cons _ _ _ _ _ rfl (.cons _ _ _ _ _ rfl (.nil _))) | exact .cons _ _ _ _ _ rfl (.cons _ _ _ _ _ rfl (.cons _ _ _ _ _ rfl (.cons _ _ _ _ _ rfl (.cons _ _ _ _ _ rfl (.nil _)))))) ?_
    | refine AW_fieldAddr rfl tf_neg rfl rfl ?_ | refine AW_fieldAddr rfl tf_mag rfl rfl ?_ | refine AW_load rfl ty_bool rfl rfl rfl rfl ?_ | refine AW_load rfl ty_mag rfl rfl rfl rfl ?_ | refine AW_beq rfl Tryz.underlying4 rfl rfl ?_ | refine AW_bne rfl Tryz.underlying4 rfl rfl ?_ | refine AW_len rfl rfl Tryz.underlying22 ?_ | refine AW_ge rfl rfl rfl ?_ | refine AW_gt rfl rfl rfl ?_
    | refine AW_pickT rfl rfl rfl ?_
    | refine AW_pickF rfl rfl rfl ?_
    | refine AW_skip rfl rfl rfl rfl ?_
    | refine AW_pickTg rfl rfl rfl rfl rfl rfl ?_
    | refine AW_pickFg rfl rfl rfl rfl rfl rfl ?_
    | refine AW_moveg rfl rfl rfl rfl rfl ?_
    | refine AW_notg rfl rfl rfl rfl rfl ?_
    | refine AW_eqg rfl rfl rfl rfl rfl rfl ?_
    | refine AW_eq rfl rfl rfl ?_
    | refine AW_loadg rfl rfl rfl rfl ty_num rfl rfl rfl rfl ?_
    | refine AW_callg rfl rfl rfl rfl rfl (by first | exact k1 | exact k2) ?_
    | refine AW_nil (fun (h : false = true) => by cases h) ?_
    | refine AW_nil (fun (_ : true = true) => by kernel_rfl) ?_
    | refine Wp_block ?_
    | refine Wp_skip ?_
    | refine Wp_exit ?_
    | refine Wp_ret ?_
  exact ⟨.inr rfl, _, .tmp _ _ _ _ rfl .nil, rfl⟩
theorem long16_five {x y z t u : Raw} (h : long16 [x, y, z, t, u] = false) : x.2.length ≤ 16 ∧ y.2.length ≤ 16 ∧ z.2.length ≤ 16 ∧ t.2.length ≤ 16 ∧ u.2.length ≤ 16 := by
  unfold long16 at h
  simp only [List.any_cons, List.any_nil, Bool.or_false, Bool.or_eq_false_iff, decide_eq_false_iff_not] at h
  omega
theorem joins_iff {r m s n : Int} (_m0 : 0 < m) (_n0 : 0 < n) : joins r m s n ↔ gcdZ m n ∣ r - s := by
  have gm := gcdZ_dvd_left m n
  have gn := gcdZ_dvd_right m n
  have e1 : m * (r / m) + r % m = r := Int.mul_ediv_add_emod r m
  have e2 : n * (s / n) + s % n = s := Int.mul_ediv_add_emod s n
  have d1 : gcdZ m n ∣ m * (r / m) := Int.dvd_trans gm (Int.dvd_mul_right _ _)
  have d2 : gcdZ m n ∣ n * (s / n) := Int.dvd_trans gn (Int.dvd_mul_right _ _)
  unfold joins
  constructor
  · intro h
    have h1 := Int.dvd_of_tmod_eq_zero h
    have h2 := Int.dvd_add (Int.dvd_sub d1 d2) h1
    rwa [show m * (r / m) - n * (s / n) + (r % m - s % n) = r - s by omega] at h2
  · intro h
    refine Int.tmod_eq_zero_of_dvd ?_
    have h2 := Int.dvd_sub h (Int.dvd_sub d1 d2)
    rwa [show r - s - (m * (r / m) - n * (s / n)) = r % m - s % n by omega] at h2
theorem dvdB_false {g x : Int} (h0 : g ≠ 0) (h : ¬ g ∣ x) : dvdB g x = false := by
  unfold dvdB
  rw [if_neg h0]
  exact decide_eq_false fun e => h (Int.dvd_of_tmod_eq_zero e)
set_option maxHeartbeats 2000000 in
set_option maxRecDepth 100000 in
theorem ct_GcdRests (r m s n x : Raw) (hr : Small r.2) (hm : Small m.2) (hs : Small s.2) (hn : Small n.2) (hx : Small x.2) : Ct Tryz.prog 8 [aNum r, aNum m, aNum s, aNum n, aNum x] (.val (aB true)) := by
  refine ct_of_wp [.tmp 10] [(0, aNum r), (1, aNum m), (2, aNum s), (3, aNum n), (4, aNum x)] 184 Tryz.func8 rfl rfl rfl rfl rfl rfl rfl rfl ?_
  intro G0 w0
  have ka := ct_law20awake
  have kl := ct_law20long [r, m, s, n, x] (Nat.le_of_ble_eq_true rfl)
  cases hl : long16 [r, m, s, n, x] with
  | true =>
    rw [hl] at kl
    repeat first
      | refine Wp_seq ?_
      | refine Wp_region tm_mixed ?_
      | refine AW_move rfl rfl ?_
      | refine AW_assign rfl rfl ?_
      | refine AW_load rfl ty_num rfl rfl rfl rfl ?_
      | refine AW_store ty_num rfl rfl rfl rfl rfl rfl rfl ?_
      | refine AW_extract rfl rfl rfl ?_
      | refine AW_alloc rfl tz_num ?_
      | refine AW_box rfl rfl (row := true) rfl (fun h => by cases h) rfl ?_
      | refine AW_not rfl rfl ?_
      | refine AW_build rfl tb_num rfl ?_
      | refine AW_call rfl rfl (by first | exact ka | exact kl) ?_
      | refine AW_ints rfl tu_nums ti_num ti_size ti_zero rfl rfl rfl (by first | exact .cons _ _ _ _ _ rfl (.cons _ _ _ _ _ rfl (.nil _)) | exact .cons _ _ _ _ _ rfl (.cons _ _ _ _ _ rfl (.cons _ _ _ _ _ rfl (.cons _ _ _ _ _ rfl (.nil _)))) | exact .cons _ _ _ _ _ rfl (.cons _ _ _ _ _ rfl (.cons _ _ _ _ _ rfl (.nil _))) | exact .cons _ _ _ _ _ rfl (.cons _ _ _ _ _ rfl (.cons _ _ _ _ _ rfl (.cons _ _ _ _ _ rfl (.cons _ _ _ _ _ rfl (.nil _)))))) ?_
      | refine AW_fieldAddr rfl tf_neg rfl rfl ?_ | refine AW_fieldAddr rfl tf_mag rfl rfl ?_ | refine AW_load rfl ty_bool rfl rfl rfl rfl ?_ | refine AW_load rfl ty_mag rfl rfl rfl rfl ?_ | refine AW_beq rfl Tryz.underlying4 rfl rfl ?_ | refine AW_bne rfl Tryz.underlying4 rfl rfl ?_ | refine AW_len rfl rfl Tryz.underlying22 ?_ | refine AW_ge rfl rfl rfl ?_ | refine AW_gt rfl rfl rfl ?_
      | refine AW_pickT rfl rfl rfl ?_
      | refine AW_pickF rfl rfl rfl ?_
      | refine AW_skip rfl rfl rfl rfl ?_
      | refine AW_pickTg rfl rfl rfl rfl rfl rfl ?_
      | refine AW_pickFg rfl rfl rfl rfl rfl rfl ?_
      | refine AW_moveg rfl rfl rfl rfl rfl ?_
      | refine AW_notg rfl rfl rfl rfl rfl ?_
      | refine AW_eqg rfl rfl rfl rfl rfl rfl ?_
      | refine AW_eq rfl rfl rfl ?_
      | refine AW_loadg rfl rfl rfl rfl ty_num rfl rfl rfl rfl ?_
      | refine AW_callg rfl rfl rfl rfl rfl (by first | exact ka | exact kl) ?_
      | refine AW_nil (fun (h : false = true) => by cases h) ?_
      | refine AW_nil (fun (_ : true = true) => by kernel_rfl) ?_
      | refine Wp_block ?_
      | refine Wp_skip ?_
      | refine Wp_exit ?_
      | refine Wp_ret ?_
    refine Wp_condF rfl ?_
    repeat first
      | refine Wp_seq ?_
      | refine Wp_region tm_mixed ?_
      | refine AW_move rfl rfl ?_
      | refine AW_assign rfl rfl ?_
      | refine AW_load rfl ty_num rfl rfl rfl rfl ?_
      | refine AW_store ty_num rfl rfl rfl rfl rfl rfl rfl ?_
      | refine AW_extract rfl rfl rfl ?_
      | refine AW_alloc rfl tz_num ?_
      | refine AW_box rfl rfl (row := true) rfl (fun h => by cases h) rfl ?_
      | refine AW_not rfl rfl ?_
      | refine AW_build rfl tb_num rfl ?_
      | refine AW_call rfl rfl (by first | exact ka | exact kl) ?_
      | refine AW_ints rfl tu_nums ti_num ti_size ti_zero rfl rfl rfl (by first | exact .cons _ _ _ _ _ rfl (.cons _ _ _ _ _ rfl (.nil _)) | exact .cons _ _ _ _ _ rfl (.cons _ _ _ _ _ rfl (.cons _ _ _ _ _ rfl (.cons _ _ _ _ _ rfl (.nil _)))) | exact .cons _ _ _ _ _ rfl (.cons _ _ _ _ _ rfl (.cons _ _ _ _ _ rfl (.nil _))) | exact .cons _ _ _ _ _ rfl (.cons _ _ _ _ _ rfl (.cons _ _ _ _ _ rfl (.cons _ _ _ _ _ rfl (.cons _ _ _ _ _ rfl (.nil _)))))) ?_
      | refine AW_fieldAddr rfl tf_neg rfl rfl ?_ | refine AW_fieldAddr rfl tf_mag rfl rfl ?_ | refine AW_load rfl ty_bool rfl rfl rfl rfl ?_ | refine AW_load rfl ty_mag rfl rfl rfl rfl ?_ | refine AW_beq rfl Tryz.underlying4 rfl rfl ?_ | refine AW_bne rfl Tryz.underlying4 rfl rfl ?_ | refine AW_len rfl rfl Tryz.underlying22 ?_ | refine AW_ge rfl rfl rfl ?_ | refine AW_gt rfl rfl rfl ?_
      | refine AW_pickT rfl rfl rfl ?_
      | refine AW_pickF rfl rfl rfl ?_
      | refine AW_skip rfl rfl rfl rfl ?_
      | refine AW_pickTg rfl rfl rfl rfl rfl rfl ?_
      | refine AW_pickFg rfl rfl rfl rfl rfl rfl ?_
      | refine AW_moveg rfl rfl rfl rfl rfl ?_
      | refine AW_notg rfl rfl rfl rfl rfl ?_
      | refine AW_eqg rfl rfl rfl rfl rfl rfl ?_
      | refine AW_eq rfl rfl rfl ?_
      | refine AW_loadg rfl rfl rfl rfl ty_num rfl rfl rfl rfl ?_
      | refine AW_callg rfl rfl rfl rfl rfl (by first | exact ka | exact kl) ?_
      | refine AW_nil (fun (h : false = true) => by cases h) ?_
      | refine AW_nil (fun (_ : true = true) => by kernel_rfl) ?_
      | refine Wp_block ?_
      | refine Wp_skip ?_
      | refine Wp_exit ?_
      | refine Wp_ret ?_
    refine Wp_condT rfl ?_
    repeat first
      | refine Wp_seq ?_
      | refine Wp_region tm_mixed ?_
      | refine AW_move rfl rfl ?_
      | refine AW_assign rfl rfl ?_
      | refine AW_load rfl ty_num rfl rfl rfl rfl ?_
      | refine AW_store ty_num rfl rfl rfl rfl rfl rfl rfl ?_
      | refine AW_extract rfl rfl rfl ?_
      | refine AW_alloc rfl tz_num ?_
      | refine AW_box rfl rfl (row := true) rfl (fun h => by cases h) rfl ?_
      | refine AW_not rfl rfl ?_
      | refine AW_build rfl tb_num rfl ?_
      | refine AW_call rfl rfl (by first | exact ka | exact kl) ?_
      | refine AW_ints rfl tu_nums ti_num ti_size ti_zero rfl rfl rfl (by first | exact .cons _ _ _ _ _ rfl (.cons _ _ _ _ _ rfl (.nil _)) | exact .cons _ _ _ _ _ rfl (.cons _ _ _ _ _ rfl (.cons _ _ _ _ _ rfl (.cons _ _ _ _ _ rfl (.nil _)))) | exact .cons _ _ _ _ _ rfl (.cons _ _ _ _ _ rfl (.cons _ _ _ _ _ rfl (.nil _))) | exact .cons _ _ _ _ _ rfl (.cons _ _ _ _ _ rfl (.cons _ _ _ _ _ rfl (.cons _ _ _ _ _ rfl (.cons _ _ _ _ _ rfl (.nil _)))))) ?_
      | refine AW_fieldAddr rfl tf_neg rfl rfl ?_ | refine AW_fieldAddr rfl tf_mag rfl rfl ?_ | refine AW_load rfl ty_bool rfl rfl rfl rfl ?_ | refine AW_load rfl ty_mag rfl rfl rfl rfl ?_ | refine AW_beq rfl Tryz.underlying4 rfl rfl ?_ | refine AW_bne rfl Tryz.underlying4 rfl rfl ?_ | refine AW_len rfl rfl Tryz.underlying22 ?_ | refine AW_ge rfl rfl rfl ?_ | refine AW_gt rfl rfl rfl ?_
      | refine AW_pickT rfl rfl rfl ?_
      | refine AW_pickF rfl rfl rfl ?_
      | refine AW_skip rfl rfl rfl rfl ?_
      | refine AW_pickTg rfl rfl rfl rfl rfl rfl ?_
      | refine AW_pickFg rfl rfl rfl rfl rfl rfl ?_
      | refine AW_moveg rfl rfl rfl rfl rfl ?_
      | refine AW_notg rfl rfl rfl rfl rfl ?_
      | refine AW_eqg rfl rfl rfl rfl rfl rfl ?_
      | refine AW_eq rfl rfl rfl ?_
      | refine AW_loadg rfl rfl rfl rfl ty_num rfl rfl rfl rfl ?_
      | refine AW_callg rfl rfl rfl rfl rfl (by first | exact ka | exact kl) ?_
      | refine AW_nil (fun (h : false = true) => by cases h) ?_
      | refine AW_nil (fun (_ : true = true) => by kernel_rfl) ?_
      | refine Wp_block ?_
      | refine Wp_skip ?_
      | refine Wp_exit ?_
      | refine Wp_ret ?_
    exact ⟨.inr rfl, _, .tmp _ _ _ _ rfl .nil, rfl⟩
  | false =>
    rw [hl] at kl
    obtain ⟨l1, l2, l3, l4, l5⟩ := long16_five hl
    repeat first
      | refine Wp_seq ?_
      | refine Wp_region tm_mixed ?_
      | refine AW_move rfl rfl ?_
      | refine AW_assign rfl rfl ?_
      | refine AW_load rfl ty_num rfl rfl rfl rfl ?_
      | refine AW_store ty_num rfl rfl rfl rfl rfl rfl rfl ?_
      | refine AW_extract rfl rfl rfl ?_
      | refine AW_alloc rfl tz_num ?_
      | refine AW_box rfl rfl (row := true) rfl (fun h => by cases h) rfl ?_
      | refine AW_not rfl rfl ?_
      | refine AW_build rfl tb_num rfl ?_
      | refine AW_call rfl rfl (by first | exact ka | exact kl) ?_
      | refine AW_ints rfl tu_nums ti_num ti_size ti_zero rfl rfl rfl (by first | exact .cons _ _ _ _ _ rfl (.cons _ _ _ _ _ rfl (.nil _)) | exact .cons _ _ _ _ _ rfl (.cons _ _ _ _ _ rfl (.cons _ _ _ _ _ rfl (.cons _ _ _ _ _ rfl (.nil _)))) | exact .cons _ _ _ _ _ rfl (.cons _ _ _ _ _ rfl (.cons _ _ _ _ _ rfl (.nil _))) | exact .cons _ _ _ _ _ rfl (.cons _ _ _ _ _ rfl (.cons _ _ _ _ _ rfl (.cons _ _ _ _ _ rfl (.cons _ _ _ _ _ rfl (.nil _)))))) ?_
      | refine AW_fieldAddr rfl tf_neg rfl rfl ?_ | refine AW_fieldAddr rfl tf_mag rfl rfl ?_ | refine AW_load rfl ty_bool rfl rfl rfl rfl ?_ | refine AW_load rfl ty_mag rfl rfl rfl rfl ?_ | refine AW_beq rfl Tryz.underlying4 rfl rfl ?_ | refine AW_bne rfl Tryz.underlying4 rfl rfl ?_ | refine AW_len rfl rfl Tryz.underlying22 ?_ | refine AW_ge rfl rfl rfl ?_ | refine AW_gt rfl rfl rfl ?_
      | refine AW_pickT rfl rfl rfl ?_
      | refine AW_pickF rfl rfl rfl ?_
      | refine AW_skip rfl rfl rfl rfl ?_
      | refine AW_pickTg rfl rfl rfl rfl rfl rfl ?_
      | refine AW_pickFg rfl rfl rfl rfl rfl rfl ?_
      | refine AW_moveg rfl rfl rfl rfl rfl ?_
      | refine AW_notg rfl rfl rfl rfl rfl ?_
      | refine AW_eqg rfl rfl rfl rfl rfl rfl ?_
      | refine AW_eq rfl rfl rfl ?_
      | refine AW_loadg rfl rfl rfl rfl ty_num rfl rfl rfl rfl ?_
      | refine AW_callg rfl rfl rfl rfl rfl (by first | exact ka | exact kl) ?_
      | refine AW_nil (fun (h : false = true) => by cases h) ?_
      | refine AW_nil (fun (_ : true = true) => by kernel_rfl) ?_
      | refine Wp_block ?_
      | refine Wp_skip ?_
      | refine Wp_exit ?_
      | refine Wp_ret ?_
    refine Wp_condF rfl ?_
    repeat first
      | refine Wp_seq ?_
      | refine Wp_region tm_mixed ?_
      | refine AW_move rfl rfl ?_
      | refine AW_assign rfl rfl ?_
      | refine AW_load rfl ty_num rfl rfl rfl rfl ?_
      | refine AW_store ty_num rfl rfl rfl rfl rfl rfl rfl ?_
      | refine AW_extract rfl rfl rfl ?_
      | refine AW_alloc rfl tz_num ?_
      | refine AW_box rfl rfl (row := true) rfl (fun h => by cases h) rfl ?_
      | refine AW_not rfl rfl ?_
      | refine AW_build rfl tb_num rfl ?_
      | refine AW_call rfl rfl (by first | exact ka | exact kl) ?_
      | refine AW_ints rfl tu_nums ti_num ti_size ti_zero rfl rfl rfl (by first | exact .cons _ _ _ _ _ rfl (.cons _ _ _ _ _ rfl (.nil _)) | exact .cons _ _ _ _ _ rfl (.cons _ _ _ _ _ rfl (.cons _ _ _ _ _ rfl (.cons _ _ _ _ _ rfl (.nil _)))) | exact .cons _ _ _ _ _ rfl (.cons _ _ _ _ _ rfl (.cons _ _ _ _ _ rfl (.nil _))) | exact .cons _ _ _ _ _ rfl (.cons _ _ _ _ _ rfl (.cons _ _ _ _ _ rfl (.cons _ _ _ _ _ rfl (.cons _ _ _ _ _ rfl (.nil _)))))) ?_
      | refine AW_fieldAddr rfl tf_neg rfl rfl ?_ | refine AW_fieldAddr rfl tf_mag rfl rfl ?_ | refine AW_load rfl ty_bool rfl rfl rfl rfl ?_ | refine AW_load rfl ty_mag rfl rfl rfl rfl ?_ | refine AW_beq rfl Tryz.underlying4 rfl rfl ?_ | refine AW_bne rfl Tryz.underlying4 rfl rfl ?_ | refine AW_len rfl rfl Tryz.underlying22 ?_ | refine AW_ge rfl rfl rfl ?_ | refine AW_gt rfl rfl rfl ?_
      | refine AW_pickT rfl rfl rfl ?_
      | refine AW_pickF rfl rfl rfl ?_
      | refine AW_skip rfl rfl rfl rfl ?_
      | refine AW_pickTg rfl rfl rfl rfl rfl rfl ?_
      | refine AW_pickFg rfl rfl rfl rfl rfl rfl ?_
      | refine AW_moveg rfl rfl rfl rfl rfl ?_
      | refine AW_notg rfl rfl rfl rfl rfl ?_
      | refine AW_eqg rfl rfl rfl rfl rfl rfl ?_
      | refine AW_eq rfl rfl rfl ?_
      | refine AW_loadg rfl rfl rfl rfl ty_num rfl rfl rfl rfl ?_
      | refine AW_callg rfl rfl rfl rfl rfl (by first | exact ka | exact kl) ?_
      | refine AW_nil (fun (h : false = true) => by cases h) ?_
      | refine AW_nil (fun (_ : true = true) => by kernel_rfl) ?_
      | refine Wp_block ?_
      | refine Wp_skip ?_
      | refine Wp_exit ?_
      | refine Wp_ret ?_
    refine Wp_condF rfl ?_
    repeat first
      | refine Wp_seq ?_
      | refine Wp_region tm_mixed ?_
      | refine AW_move rfl rfl ?_
      | refine AW_assign rfl rfl ?_
      | refine AW_load rfl ty_num rfl rfl rfl rfl ?_
      | refine AW_store ty_num rfl rfl rfl rfl rfl rfl rfl ?_
      | refine AW_extract rfl rfl rfl ?_
      | refine AW_alloc rfl tz_num ?_
      | refine AW_box rfl rfl (row := true) rfl (fun h => by cases h) rfl ?_
      | refine AW_not rfl rfl ?_
      | refine AW_build rfl tb_num rfl ?_
      | refine AW_call rfl rfl (by first | exact ka | exact kl) ?_
      | refine AW_ints rfl tu_nums ti_num ti_size ti_zero rfl rfl rfl (by first | exact .cons _ _ _ _ _ rfl (.cons _ _ _ _ _ rfl (.nil _)) | exact .cons _ _ _ _ _ rfl (.cons _ _ _ _ _ rfl (.cons _ _ _ _ _ rfl (.cons _ _ _ _ _ rfl (.nil _)))) | exact .cons _ _ _ _ _ rfl (.cons _ _ _ _ _ rfl (.cons _ _ _ _ _ rfl (.nil _))) | exact .cons _ _ _ _ _ rfl (.cons _ _ _ _ _ rfl (.cons _ _ _ _ _ rfl (.cons _ _ _ _ _ rfl (.cons _ _ _ _ _ rfl (.nil _)))))) ?_
      | refine AW_fieldAddr rfl tf_neg rfl rfl ?_ | refine AW_fieldAddr rfl tf_mag rfl rfl ?_ | refine AW_load rfl ty_bool rfl rfl rfl rfl ?_ | refine AW_load rfl ty_mag rfl rfl rfl rfl ?_ | refine AW_beq rfl Tryz.underlying4 rfl rfl ?_ | refine AW_bne rfl Tryz.underlying4 rfl rfl ?_ | refine AW_len rfl rfl Tryz.underlying22 ?_ | refine AW_ge rfl rfl rfl ?_ | refine AW_gt rfl rfl rfl ?_
      | refine AW_pickT rfl rfl rfl ?_
      | refine AW_pickF rfl rfl rfl ?_
      | refine AW_skip rfl rfl rfl rfl ?_
      | refine AW_pickTg rfl rfl rfl rfl rfl rfl ?_
      | refine AW_pickFg rfl rfl rfl rfl rfl rfl ?_
      | refine AW_moveg rfl rfl rfl rfl rfl ?_
      | refine AW_notg rfl rfl rfl rfl rfl ?_
      | refine AW_eqg rfl rfl rfl rfl rfl rfl ?_
      | refine AW_eq rfl rfl rfl ?_
      | refine AW_loadg rfl rfl rfl rfl ty_num rfl rfl rfl rfl ?_
      | refine AW_callg rfl rfl rfl rfl rfl (by first | exact ka | exact kl) ?_
      | refine AW_nil (fun (h : false = true) => by cases h) ?_
      | refine AW_nil (fun (_ : true = true) => by kernel_rfl) ?_
      | refine Wp_block ?_
      | refine Wp_skip ?_
      | refine Wp_exit ?_
      | refine Wp_ret ?_
    refine Wp_loop (fun k : Nat => ⟨[(5, .val (.one (.ptr 0 0))), (6, .val (.one (.ptr 1 0))), (7, .val (.one (.ptr 2 0))), (8, .val (.one (.ptr 3 0))), (9, .val (.one (.ptr 4 0))), (11, .val (.one (.st (polyP [r, m, s, n, x])))), (12, .val (aI (k : Int)))],
      [(0, 24, [.b r.1, .st (magP r.2)]), (1, 24, [.b m.1, .st (magP m.2)]), (2, 24, [.b s.1, .st (magP s.2)]), (3, 24, [.b n.1, .st (magP n.2)]), (4, 24, [.b x.1, .st (magP x.2)])], 5⟩)
      (fun k => k ≤ 5 ∧ ([r, m, s, n, x].take k).all rightInt = true) (fun k => 5 - k) 0 ⟨by omega, rfl⟩ (le_of ⟨rfl, rfl, rfl, rfl, rfl, rfl, rfl, trivial⟩ ⟨rfl, rfl, rfl, rfl, rfl, trivial⟩ rfl) ?_
    rintro k ⟨hk, hall⟩
    repeat first
      | refine Wp_seq ?_
      | refine Wp_region tm_mixed ?_
      | refine AW_move rfl rfl ?_
      | refine AW_assign rfl rfl ?_
      | refine AW_load rfl ty_num rfl rfl rfl rfl ?_
      | refine AW_store ty_num rfl rfl rfl rfl rfl rfl rfl ?_
      | refine AW_extract rfl rfl rfl ?_
      | refine AW_alloc rfl tz_num ?_
      | refine AW_box rfl rfl (row := true) rfl (fun h => by cases h) rfl ?_
      | refine AW_not rfl rfl ?_
      | refine AW_build rfl tb_num rfl ?_
      | refine AW_call rfl rfl (by first | exact ka) ?_
      | refine AW_ints rfl tu_nums ti_num ti_size ti_zero rfl rfl rfl (by first | exact .cons _ _ _ _ _ rfl (.cons _ _ _ _ _ rfl (.nil _)) | exact .cons _ _ _ _ _ rfl (.cons _ _ _ _ _ rfl (.cons _ _ _ _ _ rfl (.cons _ _ _ _ _ rfl (.nil _)))) | exact .cons _ _ _ _ _ rfl (.cons _ _ _ _ _ rfl (.cons _ _ _ _ _ rfl (.nil _))) | exact .cons _ _ _ _ _ rfl (.cons _ _ _ _ _ rfl (.cons _ _ _ _ _ rfl (.cons _ _ _ _ _ rfl (.cons _ _ _ _ _ rfl (.nil _)))))) ?_
      | refine AW_fieldAddr rfl tf_neg rfl rfl ?_ | refine AW_fieldAddr rfl tf_mag rfl rfl ?_ | refine AW_load rfl ty_bool rfl rfl rfl rfl ?_ | refine AW_load rfl ty_mag rfl rfl rfl rfl ?_ | refine AW_beq rfl Tryz.underlying4 rfl rfl ?_ | refine AW_bne rfl Tryz.underlying4 rfl rfl ?_ | refine AW_len rfl rfl Tryz.underlying22 ?_ | refine AW_ge rfl rfl rfl ?_ | refine AW_gt rfl rfl rfl ?_ | refine AW_lt rfl rfl rfl ?_
      | refine AW_pickT rfl rfl rfl ?_
      | refine AW_pickF rfl rfl rfl ?_
      | refine AW_skip rfl rfl rfl rfl ?_
      | refine AW_pickTg rfl rfl rfl rfl rfl rfl ?_
      | refine AW_pickFg rfl rfl rfl rfl rfl rfl ?_
      | refine AW_moveg rfl rfl rfl rfl rfl ?_
      | refine AW_notg rfl rfl rfl rfl rfl ?_
      | refine AW_eqg rfl rfl rfl rfl rfl rfl ?_
      | refine AW_eq rfl rfl rfl ?_
      | refine AW_loadg rfl rfl rfl rfl ty_num rfl rfl rfl rfl ?_
      | refine AW_callg rfl rfl rfl rfl rfl (by first | exact ka) ?_
      | refine AW_nil (fun (h : false = true) => by cases h) ?_
      | refine AW_nil (fun (_ : true = true) => by kernel_rfl) ?_
      | refine Wp_block ?_
      | refine Wp_skip ?_
      | refine Wp_exit ?_
      | refine Wp_ret ?_
    refine Wp_cond rfl (fun hc => ?_) (fun hc => ?_)
    · have hlt : k < 5 := by have := of_decide_eq_true hc; omega
      obtain ⟨y, hy⟩ : ∃ y, [r, m, s, n, x][k]? = some y := ⟨_, List.getElem?_eq_getElem (by simpa using hlt)⟩
      have hy' : [r, m, s, n, x].getD k (false, []) = y := by rw [List.getD_eq_getElem?_getD, hy]; rfl
      have kr := ct_Right y
      repeat first
        | refine Wp_seq ?_
        | refine Wp_region tm_mixed ?_
        | refine AW_move rfl rfl ?_
        | refine AW_assign rfl rfl ?_
        | refine AW_load rfl ty_num rfl rfl rfl rfl ?_
        | refine AW_store ty_num rfl rfl rfl rfl rfl rfl rfl ?_
        | refine AW_extract rfl rfl rfl ?_
        | refine AW_alloc rfl tz_num ?_
        | refine AW_box rfl rfl (row := true) rfl (fun h => by cases h) rfl ?_
        | refine AW_not rfl rfl ?_
        | refine AW_build rfl tb_num rfl ?_
        | refine AW_call rfl rfl (by first | exact kr) ?_
        | refine AW_ints rfl tu_nums ti_num ti_size ti_zero rfl rfl rfl (by first | exact .cons _ _ _ _ _ rfl (.cons _ _ _ _ _ rfl (.nil _)) | exact .cons _ _ _ _ _ rfl (.cons _ _ _ _ _ rfl (.cons _ _ _ _ _ rfl (.cons _ _ _ _ _ rfl (.nil _)))) | exact .cons _ _ _ _ _ rfl (.cons _ _ _ _ _ rfl (.cons _ _ _ _ _ rfl (.nil _))) | exact .cons _ _ _ _ _ rfl (.cons _ _ _ _ _ rfl (.cons _ _ _ _ _ rfl (.cons _ _ _ _ _ rfl (.cons _ _ _ _ _ rfl (.nil _)))))) ?_
        | refine AW_fieldAddr rfl tf_neg rfl rfl ?_ | refine AW_fieldAddr rfl tf_mag rfl rfl ?_ | refine AW_load rfl ty_bool rfl rfl rfl rfl ?_ | refine AW_load rfl ty_mag rfl rfl rfl rfl ?_ | refine AW_beq rfl Tryz.underlying4 rfl rfl ?_ | refine AW_bne rfl Tryz.underlying4 rfl rfl ?_ | refine AW_len rfl rfl Tryz.underlying22 ?_ | refine AW_ge rfl rfl rfl ?_ | refine AW_gt rfl rfl rfl ?_ | refine AW_polyAt rfl tu_nums ts_num rfl rfl hy ?_ | refine AW_recAt rfl ty_num rfl ?_
        | refine AW_pickT rfl rfl rfl ?_
        | refine AW_pickF rfl rfl rfl ?_
        | refine AW_skip rfl rfl rfl rfl ?_
        | refine AW_pickTg rfl rfl rfl rfl rfl rfl ?_
        | refine AW_pickFg rfl rfl rfl rfl rfl rfl ?_
        | refine AW_moveg rfl rfl rfl rfl rfl ?_
        | refine AW_notg rfl rfl rfl rfl rfl ?_
        | refine AW_eqg rfl rfl rfl rfl rfl rfl ?_
        | refine AW_eq rfl rfl rfl ?_
        | refine AW_loadg rfl rfl rfl rfl ty_num rfl rfl rfl rfl ?_
        | refine AW_callg rfl rfl rfl rfl rfl (by first | exact kr) ?_
        | refine AW_nil (fun (h : false = true) => by cases h) ?_
        | refine AW_nil (fun (_ : true = true) => by kernel_rfl) ?_
        | refine Wp_block ?_
        | refine Wp_skip ?_
        | refine Wp_exit ?_
        | refine Wp_ret ?_
      refine Wp_cond rfl (fun hd => ?_) (fun hd => ?_)
      · repeat first
          | refine Wp_seq ?_
          | refine Wp_region tm_mixed ?_
          | refine AW_move rfl rfl ?_
          | refine AW_assign rfl rfl ?_
          | refine AW_load rfl ty_num rfl rfl rfl rfl ?_
          | refine AW_store ty_num rfl rfl rfl rfl rfl rfl rfl ?_
          | refine AW_extract rfl rfl rfl ?_
          | refine AW_alloc rfl tz_num ?_
          | refine AW_box rfl rfl (row := true) rfl (fun h => by cases h) rfl ?_
          | refine AW_not rfl rfl ?_
          | refine AW_build rfl tb_num rfl ?_
          | refine AW_call rfl rfl (by first | exact kr) ?_
          | refine AW_ints rfl tu_nums ti_num ti_size ti_zero rfl rfl rfl (by first | exact .cons _ _ _ _ _ rfl (.cons _ _ _ _ _ rfl (.nil _)) | exact .cons _ _ _ _ _ rfl (.cons _ _ _ _ _ rfl (.cons _ _ _ _ _ rfl (.cons _ _ _ _ _ rfl (.nil _)))) | exact .cons _ _ _ _ _ rfl (.cons _ _ _ _ _ rfl (.cons _ _ _ _ _ rfl (.nil _))) | exact .cons _ _ _ _ _ rfl (.cons _ _ _ _ _ rfl (.cons _ _ _ _ _ rfl (.cons _ _ _ _ _ rfl (.cons _ _ _ _ _ rfl (.nil _)))))) ?_
          | refine AW_fieldAddr rfl tf_neg rfl rfl ?_ | refine AW_fieldAddr rfl tf_mag rfl rfl ?_ | refine AW_load rfl ty_bool rfl rfl rfl rfl ?_ | refine AW_load rfl ty_mag rfl rfl rfl rfl ?_ | refine AW_beq rfl Tryz.underlying4 rfl rfl ?_ | refine AW_bne rfl Tryz.underlying4 rfl rfl ?_ | refine AW_len rfl rfl Tryz.underlying22 ?_ | refine AW_ge rfl rfl rfl ?_ | refine AW_gt rfl rfl rfl ?_
          | refine AW_pickT rfl rfl rfl ?_
          | refine AW_pickF rfl rfl rfl ?_
          | refine AW_skip rfl rfl rfl rfl ?_
          | refine AW_pickTg rfl rfl rfl rfl rfl rfl ?_
          | refine AW_pickFg rfl rfl rfl rfl rfl rfl ?_
          | refine AW_moveg rfl rfl rfl rfl rfl ?_
          | refine AW_notg rfl rfl rfl rfl rfl ?_
          | refine AW_eqg rfl rfl rfl rfl rfl rfl ?_
          | refine AW_eq rfl rfl rfl ?_
          | refine AW_loadg rfl rfl rfl rfl ty_num rfl rfl rfl rfl ?_
          | refine AW_callg rfl rfl rfl rfl rfl (by first | exact kr) ?_
          | refine AW_nil (fun (h : false = true) => by cases h) ?_
          | refine AW_nil (fun (_ : true = true) => by kernel_rfl) ?_
          | refine Wp_block ?_
          | refine Wp_skip ?_
          | refine Wp_exit ?_
          | refine Wp_ret ?_
        exact ⟨.inr rfl, _, .tmp _ _ _ _ rfl .nil, rfl⟩
      · repeat first
          | refine Wp_seq ?_
          | refine Wp_region tm_mixed ?_
          | refine AW_move rfl rfl ?_
          | refine AW_assign rfl rfl ?_
          | refine AW_load rfl ty_num rfl rfl rfl rfl ?_
          | refine AW_store ty_num rfl rfl rfl rfl rfl rfl rfl ?_
          | refine AW_extract rfl rfl rfl ?_
          | refine AW_alloc rfl tz_num ?_
          | refine AW_box rfl rfl (row := true) rfl (fun h => by cases h) rfl ?_
          | refine AW_not rfl rfl ?_
          | refine AW_build rfl tb_num rfl ?_
          | refine AW_call rfl rfl (by first | exact kr) ?_
          | refine AW_ints rfl tu_nums ti_num ti_size ti_zero rfl rfl rfl (by first | exact .cons _ _ _ _ _ rfl (.cons _ _ _ _ _ rfl (.nil _)) | exact .cons _ _ _ _ _ rfl (.cons _ _ _ _ _ rfl (.cons _ _ _ _ _ rfl (.cons _ _ _ _ _ rfl (.nil _)))) | exact .cons _ _ _ _ _ rfl (.cons _ _ _ _ _ rfl (.cons _ _ _ _ _ rfl (.nil _))) | exact .cons _ _ _ _ _ rfl (.cons _ _ _ _ _ rfl (.cons _ _ _ _ _ rfl (.cons _ _ _ _ _ rfl (.cons _ _ _ _ _ rfl (.nil _)))))) ?_
          | refine AW_fieldAddr rfl tf_neg rfl rfl ?_ | refine AW_fieldAddr rfl tf_mag rfl rfl ?_ | refine AW_load rfl ty_bool rfl rfl rfl rfl ?_ | refine AW_load rfl ty_mag rfl rfl rfl rfl ?_ | refine AW_beq rfl Tryz.underlying4 rfl rfl ?_ | refine AW_bne rfl Tryz.underlying4 rfl rfl ?_ | refine AW_len rfl rfl Tryz.underlying22 ?_ | refine AW_ge rfl rfl rfl ?_ | refine AW_gt rfl rfl rfl ?_ | refine AW_add rfl rfl rfl ?_
          | refine AW_pickT rfl rfl rfl ?_
          | refine AW_pickF rfl rfl rfl ?_
          | refine AW_skip rfl rfl rfl rfl ?_
          | refine AW_pickTg rfl rfl rfl rfl rfl rfl ?_
          | refine AW_pickFg rfl rfl rfl rfl rfl rfl ?_
          | refine AW_moveg rfl rfl rfl rfl rfl ?_
          | refine AW_notg rfl rfl rfl rfl rfl ?_
          | refine AW_eqg rfl rfl rfl rfl rfl rfl ?_
          | refine AW_eq rfl rfl rfl ?_
          | refine AW_loadg rfl rfl rfl rfl ty_num rfl rfl rfl rfl ?_
          | refine AW_callg rfl rfl rfl rfl rfl (by first | exact kr) ?_
          | refine AW_nil (fun (h : false = true) => by cases h) ?_
          | refine AW_nil (fun (_ : true = true) => by kernel_rfl) ?_
          | refine Wp_block ?_
          | refine Wp_skip ?_
          | refine Wp_exit ?_
          | refine Wp_ret ?_
        refine ⟨k + 1, ⟨hlt, ?_⟩, le_of ⟨rfl, rfl, rfl, rfl, rfl, rfl, ?_, trivial⟩ ⟨rfl, rfl, rfl, rfl, rfl, trivial⟩ rfl, by omega⟩
        · rw [all_take_succ (by simpa using hlt), hall, hy']; simpa using hd
        · rw [← wrap_succ (by omega)]; rfl
    · have hk5 : k = 5 := by have := of_decide_eq_false hc; omega
      subst hk5
      simp only [List.take_succ_cons, List.take_zero, List.all_cons, List.all_nil, Bool.and_true, Bool.and_eq_true] at hall
      obtain ⟨a1, a2, a3, a4, a5⟩ := hall
      obtain ⟨r, rfl, lr0⟩ := right_z hr a1
      obtain ⟨m, rfl, lm0⟩ := right_z hm a2
      obtain ⟨s, rfl, ls0⟩ := right_z hs a3
      obtain ⟨n, rfl, ln0⟩ := right_z hn a4
      obtain ⟨x, rfl, lx0⟩ := right_z hx a5
      have lr : lc r.natAbs ≤ 16 := by omega
      have lm : lc m.natAbs ≤ 16 := by omega
      have ls : lc s.natAbs ≤ 16 := by omega
      have ln : lc n.natAbs ≤ 16 := by omega
      have lx : lc x.natAbs ≤ 16 := by omega
      have z0 := ct_lz (false, [])
      by_cases hmn : m ≤ 0 ∨ n ≤ 0
      · have kj := ct_gJoin_low r m s n (by omega) (by omega) (by omega) (by omega) hmn
        by_cases m1 : m = 0
        · have zm := ct_lzT m m1
          have hM := signF (z := (0 : Int)) (by omega)
          have hN := hM
          repeat first
            | refine Wp_seq ?_
            | refine Wp_region tm_mixed ?_
            | refine AW_move rfl rfl ?_
            | refine AW_assign rfl rfl ?_
            | refine AW_load rfl ty_num rfl rfl rfl rfl ?_
            | refine AW_store ty_num rfl rfl rfl rfl rfl rfl rfl ?_
            | refine AW_extract rfl rfl rfl ?_
            | refine AW_alloc rfl tz_num ?_
            | refine AW_box rfl rfl (row := true) rfl (fun h => by cases h) rfl ?_
            | refine AW_not rfl rfl ?_
            | refine AW_build rfl tb_num rfl ?_
            | refine AW_call rfl rfl (by first | exact kj | exact zm) ?_
            | refine AW_ints rfl tu_nums ti_num ti_size ti_zero rfl rfl rfl (by first | exact .cons _ _ _ _ _ rfl (.cons _ _ _ _ _ rfl (.nil _)) | exact .cons _ _ _ _ _ rfl (.cons _ _ _ _ _ rfl (.cons _ _ _ _ _ rfl (.cons _ _ _ _ _ rfl (.nil _)))) | exact .cons _ _ _ _ _ rfl (.cons _ _ _ _ _ rfl (.cons _ _ _ _ _ rfl (.nil _))) | exact .cons _ _ _ _ _ rfl (.cons _ _ _ _ _ rfl (.cons _ _ _ _ _ rfl (.cons _ _ _ _ _ rfl (.cons _ _ _ _ _ rfl (.nil _)))))) ?_
            | refine AW_fieldAddr rfl tf_neg rfl rfl ?_ | refine AW_fieldAddr rfl tf_mag rfl rfl ?_ | refine AW_load rfl ty_bool rfl rfl rfl rfl ?_ | refine AW_load rfl ty_mag rfl rfl rfl rfl ?_ | refine AW_beq rfl Tryz.underlying4 rfl rfl ?_ | refine AW_bne rfl Tryz.underlying4 rfl rfl ?_ | refine AW_len rfl rfl Tryz.underlying22 ?_ | refine AW_ge rfl rfl rfl ?_ | refine AW_gt rfl rfl rfl ?_ | refine AW_fieldAddrg rfl rfl rfl rfl tf_neg rfl rfl ?_ | refine AW_neg rfl rfl rfl rfl rfl rfl ?_ | refine AW_ne rfl rfl rfl ?_ | refine AW_loadg rfl rfl rfl rfl ty_bool rfl rfl rfl hM ?_ | refine AW_loadg rfl rfl rfl rfl ty_bool rfl rfl rfl hN ?_
            | refine AW_pickT rfl rfl rfl ?_
            | refine AW_pickF rfl rfl rfl ?_
            | refine AW_skip rfl rfl rfl rfl ?_
            | refine AW_pickTg rfl rfl rfl rfl rfl rfl ?_
            | refine AW_pickFg rfl rfl rfl rfl rfl rfl ?_
            | refine AW_moveg rfl rfl rfl rfl rfl ?_
            | refine AW_notg rfl rfl rfl rfl rfl ?_
            | refine AW_eqg rfl rfl rfl rfl rfl rfl ?_
            | refine AW_eq rfl rfl rfl ?_
            | refine AW_loadg rfl rfl rfl rfl ty_num rfl rfl rfl rfl ?_
            | refine AW_callg rfl rfl rfl rfl rfl (by first | exact kj | exact zm) ?_
            | refine AW_nil (fun (h : false = true) => by cases h) ?_
            | refine AW_nil (fun (_ : true = true) => by kernel_rfl) ?_
            | refine Wp_block ?_
            | refine Wp_skip ?_
            | refine Wp_exit ?_
            | refine Wp_ret ?_
          refine Wp_condT rfl ?_
          repeat first
            | refine Wp_seq ?_
            | refine Wp_region tm_mixed ?_
            | refine AW_move rfl rfl ?_
            | refine AW_assign rfl rfl ?_
            | refine AW_load rfl ty_num rfl rfl rfl rfl ?_
            | refine AW_store ty_num rfl rfl rfl rfl rfl rfl rfl ?_
            | refine AW_extract rfl rfl rfl ?_
            | refine AW_alloc rfl tz_num ?_
            | refine AW_box rfl rfl (row := true) rfl (fun h => by cases h) rfl ?_
            | refine AW_not rfl rfl ?_
            | refine AW_build rfl tb_num rfl ?_
            | refine AW_call rfl rfl (by first | exact z0) ?_
            | refine AW_ints rfl tu_nums ti_num ti_size ti_zero rfl rfl rfl (by first | exact .cons _ _ _ _ _ rfl (.cons _ _ _ _ _ rfl (.nil _)) | exact .cons _ _ _ _ _ rfl (.cons _ _ _ _ _ rfl (.cons _ _ _ _ _ rfl (.cons _ _ _ _ _ rfl (.nil _)))) | exact .cons _ _ _ _ _ rfl (.cons _ _ _ _ _ rfl (.cons _ _ _ _ _ rfl (.nil _))) | exact .cons _ _ _ _ _ rfl (.cons _ _ _ _ _ rfl (.cons _ _ _ _ _ rfl (.cons _ _ _ _ _ rfl (.cons _ _ _ _ _ rfl (.nil _)))))) ?_
            | refine AW_fieldAddr rfl tf_neg rfl rfl ?_ | refine AW_fieldAddr rfl tf_mag rfl rfl ?_ | refine AW_load rfl ty_bool rfl rfl rfl rfl ?_ | refine AW_load rfl ty_mag rfl rfl rfl rfl ?_ | refine AW_beq rfl Tryz.underlying4 rfl rfl ?_ | refine AW_bne rfl Tryz.underlying4 rfl rfl ?_ | refine AW_len rfl rfl Tryz.underlying22 ?_ | refine AW_ge rfl rfl rfl ?_ | refine AW_gt rfl rfl rfl ?_ | refine AW_fieldAddrg rfl rfl rfl rfl tf_neg rfl rfl ?_ | refine AW_neg rfl rfl rfl rfl rfl rfl ?_ | refine AW_ne rfl rfl rfl ?_ | refine AW_loadg rfl rfl rfl rfl ty_bool rfl rfl rfl hM ?_ | refine AW_loadg rfl rfl rfl rfl ty_bool rfl rfl rfl hN ?_
            | refine AW_pickT rfl rfl rfl ?_
            | refine AW_pickF rfl rfl rfl ?_
            | refine AW_skip rfl rfl rfl rfl ?_
            | refine AW_pickTg rfl rfl rfl rfl rfl rfl ?_
            | refine AW_pickFg rfl rfl rfl rfl rfl rfl ?_
            | refine AW_moveg rfl rfl rfl rfl rfl ?_
            | refine AW_notg rfl rfl rfl rfl rfl ?_
            | refine AW_eqg rfl rfl rfl rfl rfl rfl ?_
            | refine AW_eq rfl rfl rfl ?_
            | refine AW_loadg rfl rfl rfl rfl ty_num rfl rfl rfl rfl ?_
            | refine AW_callg rfl rfl rfl rfl rfl (by first | exact z0) ?_
            | refine AW_nil (fun (h : false = true) => by cases h) ?_
            | refine AW_nil (fun (_ : true = true) => by kernel_rfl) ?_
            | refine Wp_block ?_
            | refine Wp_skip ?_
            | refine Wp_exit ?_
            | refine Wp_ret ?_
          exact ⟨.inr rfl, _, .tmp _ _ _ _ rfl .nil, rfl⟩
        · have zm := ct_lzF m m1
          by_cases m2 : m < 0
          · have hM := signT m2
            have hN := hM
            repeat first
              | refine Wp_seq ?_
              | refine Wp_region tm_mixed ?_
              | refine AW_move rfl rfl ?_
              | refine AW_assign rfl rfl ?_
              | refine AW_load rfl ty_num rfl rfl rfl rfl ?_
              | refine AW_store ty_num rfl rfl rfl rfl rfl rfl rfl ?_
              | refine AW_extract rfl rfl rfl ?_
              | refine AW_alloc rfl tz_num ?_
              | refine AW_box rfl rfl (row := true) rfl (fun h => by cases h) rfl ?_
              | refine AW_not rfl rfl ?_
              | refine AW_build rfl tb_num rfl ?_
              | refine AW_call rfl rfl (by first | exact kj | exact zm) ?_
              | refine AW_ints rfl tu_nums ti_num ti_size ti_zero rfl rfl rfl (by first | exact .cons _ _ _ _ _ rfl (.cons _ _ _ _ _ rfl (.nil _)) | exact .cons _ _ _ _ _ rfl (.cons _ _ _ _ _ rfl (.cons _ _ _ _ _ rfl (.cons _ _ _ _ _ rfl (.nil _)))) | exact .cons _ _ _ _ _ rfl (.cons _ _ _ _ _ rfl (.cons _ _ _ _ _ rfl (.nil _))) | exact .cons _ _ _ _ _ rfl (.cons _ _ _ _ _ rfl (.cons _ _ _ _ _ rfl (.cons _ _ _ _ _ rfl (.cons _ _ _ _ _ rfl (.nil _)))))) ?_
              | refine AW_fieldAddr rfl tf_neg rfl rfl ?_ | refine AW_fieldAddr rfl tf_mag rfl rfl ?_ | refine AW_load rfl ty_bool rfl rfl rfl rfl ?_ | refine AW_load rfl ty_mag rfl rfl rfl rfl ?_ | refine AW_beq rfl Tryz.underlying4 rfl rfl ?_ | refine AW_bne rfl Tryz.underlying4 rfl rfl ?_ | refine AW_len rfl rfl Tryz.underlying22 ?_ | refine AW_ge rfl rfl rfl ?_ | refine AW_gt rfl rfl rfl ?_ | refine AW_fieldAddrg rfl rfl rfl rfl tf_neg rfl rfl ?_ | refine AW_neg rfl rfl rfl rfl rfl rfl ?_ | refine AW_ne rfl rfl rfl ?_ | refine AW_loadg rfl rfl rfl rfl ty_bool rfl rfl rfl hM ?_ | refine AW_loadg rfl rfl rfl rfl ty_bool rfl rfl rfl hN ?_
              | refine AW_pickT rfl rfl rfl ?_
              | refine AW_pickF rfl rfl rfl ?_
              | refine AW_skip rfl rfl rfl rfl ?_
              | refine AW_pickTg rfl rfl rfl rfl rfl rfl ?_
              | refine AW_pickFg rfl rfl rfl rfl rfl rfl ?_
              | refine AW_moveg rfl rfl rfl rfl rfl ?_
              | refine AW_notg rfl rfl rfl rfl rfl ?_
              | refine AW_eqg rfl rfl rfl rfl rfl rfl ?_
              | refine AW_eq rfl rfl rfl ?_
              | refine AW_loadg rfl rfl rfl rfl ty_num rfl rfl rfl rfl ?_
              | refine AW_callg rfl rfl rfl rfl rfl (by first | exact kj | exact zm) ?_
              | refine AW_nil (fun (h : false = true) => by cases h) ?_
              | refine AW_nil (fun (_ : true = true) => by kernel_rfl) ?_
              | refine Wp_block ?_
              | refine Wp_skip ?_
              | refine Wp_exit ?_
              | refine Wp_ret ?_
            refine Wp_condT rfl ?_
            repeat first
              | refine Wp_seq ?_
              | refine Wp_region tm_mixed ?_
              | refine AW_move rfl rfl ?_
              | refine AW_assign rfl rfl ?_
              | refine AW_load rfl ty_num rfl rfl rfl rfl ?_
              | refine AW_store ty_num rfl rfl rfl rfl rfl rfl rfl ?_
              | refine AW_extract rfl rfl rfl ?_
              | refine AW_alloc rfl tz_num ?_
              | refine AW_box rfl rfl (row := true) rfl (fun h => by cases h) rfl ?_
              | refine AW_not rfl rfl ?_
              | refine AW_build rfl tb_num rfl ?_
              | refine AW_call rfl rfl (by first | exact z0) ?_
              | refine AW_ints rfl tu_nums ti_num ti_size ti_zero rfl rfl rfl (by first | exact .cons _ _ _ _ _ rfl (.cons _ _ _ _ _ rfl (.nil _)) | exact .cons _ _ _ _ _ rfl (.cons _ _ _ _ _ rfl (.cons _ _ _ _ _ rfl (.cons _ _ _ _ _ rfl (.nil _)))) | exact .cons _ _ _ _ _ rfl (.cons _ _ _ _ _ rfl (.cons _ _ _ _ _ rfl (.nil _))) | exact .cons _ _ _ _ _ rfl (.cons _ _ _ _ _ rfl (.cons _ _ _ _ _ rfl (.cons _ _ _ _ _ rfl (.cons _ _ _ _ _ rfl (.nil _)))))) ?_
              | refine AW_fieldAddr rfl tf_neg rfl rfl ?_ | refine AW_fieldAddr rfl tf_mag rfl rfl ?_ | refine AW_load rfl ty_bool rfl rfl rfl rfl ?_ | refine AW_load rfl ty_mag rfl rfl rfl rfl ?_ | refine AW_beq rfl Tryz.underlying4 rfl rfl ?_ | refine AW_bne rfl Tryz.underlying4 rfl rfl ?_ | refine AW_len rfl rfl Tryz.underlying22 ?_ | refine AW_ge rfl rfl rfl ?_ | refine AW_gt rfl rfl rfl ?_ | refine AW_fieldAddrg rfl rfl rfl rfl tf_neg rfl rfl ?_ | refine AW_neg rfl rfl rfl rfl rfl rfl ?_ | refine AW_ne rfl rfl rfl ?_ | refine AW_loadg rfl rfl rfl rfl ty_bool rfl rfl rfl hM ?_ | refine AW_loadg rfl rfl rfl rfl ty_bool rfl rfl rfl hN ?_
              | refine AW_pickT rfl rfl rfl ?_
              | refine AW_pickF rfl rfl rfl ?_
              | refine AW_skip rfl rfl rfl rfl ?_
              | refine AW_pickTg rfl rfl rfl rfl rfl rfl ?_
              | refine AW_pickFg rfl rfl rfl rfl rfl rfl ?_
              | refine AW_moveg rfl rfl rfl rfl rfl ?_
              | refine AW_notg rfl rfl rfl rfl rfl ?_
              | refine AW_eqg rfl rfl rfl rfl rfl rfl ?_
              | refine AW_eq rfl rfl rfl ?_
              | refine AW_loadg rfl rfl rfl rfl ty_num rfl rfl rfl rfl ?_
              | refine AW_callg rfl rfl rfl rfl rfl (by first | exact z0) ?_
              | refine AW_nil (fun (h : false = true) => by cases h) ?_
              | refine AW_nil (fun (_ : true = true) => by kernel_rfl) ?_
              | refine Wp_block ?_
              | refine Wp_skip ?_
              | refine Wp_exit ?_
              | refine Wp_ret ?_
            exact ⟨.inr rfl, _, .tmp _ _ _ _ rfl .nil, rfl⟩
          · have hM := signF (z := m) (by omega)
            by_cases n1 : n = 0
            · have zn := ct_lzT n n1
              have hN := hM
              repeat first
                | refine Wp_seq ?_
                | refine Wp_region tm_mixed ?_
                | refine AW_move rfl rfl ?_
                | refine AW_assign rfl rfl ?_
                | refine AW_load rfl ty_num rfl rfl rfl rfl ?_
                | refine AW_store ty_num rfl rfl rfl rfl rfl rfl rfl ?_
                | refine AW_extract rfl rfl rfl ?_
                | refine AW_alloc rfl tz_num ?_
                | refine AW_box rfl rfl (row := true) rfl (fun h => by cases h) rfl ?_
                | refine AW_not rfl rfl ?_
                | refine AW_build rfl tb_num rfl ?_
                | refine AW_call rfl rfl (by first | exact kj | exact zm | exact zn) ?_
                | refine AW_ints rfl tu_nums ti_num ti_size ti_zero rfl rfl rfl (by first | exact .cons _ _ _ _ _ rfl (.cons _ _ _ _ _ rfl (.nil _)) | exact .cons _ _ _ _ _ rfl (.cons _ _ _ _ _ rfl (.cons _ _ _ _ _ rfl (.cons _ _ _ _ _ rfl (.nil _)))) | exact .cons _ _ _ _ _ rfl (.cons _ _ _ _ _ rfl (.cons _ _ _ _ _ rfl (.nil _))) | exact .cons _ _ _ _ _ rfl (.cons _ _ _ _ _ rfl (.cons _ _ _ _ _ rfl (.cons _ _ _ _ _ rfl (.cons _ _ _ _ _ rfl (.nil _)))))) ?_
                | refine AW_fieldAddr rfl tf_neg rfl rfl ?_ | refine AW_fieldAddr rfl tf_mag rfl rfl ?_ | refine AW_load rfl ty_bool rfl rfl rfl rfl ?_ | refine AW_load rfl ty_mag rfl rfl rfl rfl ?_ | refine AW_beq rfl Tryz.underlying4 rfl rfl ?_ | refine AW_bne rfl Tryz.underlying4 rfl rfl ?_ | refine AW_len rfl rfl Tryz.underlying22 ?_ | refine AW_ge rfl rfl rfl ?_ | refine AW_gt rfl rfl rfl ?_ | refine AW_fieldAddrg rfl rfl rfl rfl tf_neg rfl rfl ?_ | refine AW_neg rfl rfl rfl rfl rfl rfl ?_ | refine AW_ne rfl rfl rfl ?_ | refine AW_loadg rfl rfl rfl rfl ty_bool rfl rfl rfl hM ?_ | refine AW_loadg rfl rfl rfl rfl ty_bool rfl rfl rfl hN ?_
                | refine AW_pickT rfl rfl rfl ?_
                | refine AW_pickF rfl rfl rfl ?_
                | refine AW_skip rfl rfl rfl rfl ?_
                | refine AW_pickTg rfl rfl rfl rfl rfl rfl ?_
                | refine AW_pickFg rfl rfl rfl rfl rfl rfl ?_
                | refine AW_moveg rfl rfl rfl rfl rfl ?_
                | refine AW_notg rfl rfl rfl rfl rfl ?_
                | refine AW_eqg rfl rfl rfl rfl rfl rfl ?_
                | refine AW_eq rfl rfl rfl ?_
                | refine AW_loadg rfl rfl rfl rfl ty_num rfl rfl rfl rfl ?_
                | refine AW_callg rfl rfl rfl rfl rfl (by first | exact kj | exact zm | exact zn) ?_
                | refine AW_nil (fun (h : false = true) => by cases h) ?_
                | refine AW_nil (fun (_ : true = true) => by kernel_rfl) ?_
                | refine Wp_block ?_
                | refine Wp_skip ?_
                | refine Wp_exit ?_
                | refine Wp_ret ?_
              refine Wp_condT rfl ?_
              repeat first
                | refine Wp_seq ?_
                | refine Wp_region tm_mixed ?_
                | refine AW_move rfl rfl ?_
                | refine AW_assign rfl rfl ?_
                | refine AW_load rfl ty_num rfl rfl rfl rfl ?_
                | refine AW_store ty_num rfl rfl rfl rfl rfl rfl rfl ?_
                | refine AW_extract rfl rfl rfl ?_
                | refine AW_alloc rfl tz_num ?_
                | refine AW_box rfl rfl (row := true) rfl (fun h => by cases h) rfl ?_
                | refine AW_not rfl rfl ?_
                | refine AW_build rfl tb_num rfl ?_
                | refine AW_call rfl rfl (by first | exact z0) ?_
                | refine AW_ints rfl tu_nums ti_num ti_size ti_zero rfl rfl rfl (by first | exact .cons _ _ _ _ _ rfl (.cons _ _ _ _ _ rfl (.nil _)) | exact .cons _ _ _ _ _ rfl (.cons _ _ _ _ _ rfl (.cons _ _ _ _ _ rfl (.cons _ _ _ _ _ rfl (.nil _)))) | exact .cons _ _ _ _ _ rfl (.cons _ _ _ _ _ rfl (.cons _ _ _ _ _ rfl (.nil _))) | exact .cons _ _ _ _ _ rfl (.cons _ _ _ _ _ rfl (.cons _ _ _ _ _ rfl (.cons _ _ _ _ _ rfl (.cons _ _ _ _ _ rfl (.nil _)))))) ?_
                | refine AW_fieldAddr rfl tf_neg rfl rfl ?_ | refine AW_fieldAddr rfl tf_mag rfl rfl ?_ | refine AW_load rfl ty_bool rfl rfl rfl rfl ?_ | refine AW_load rfl ty_mag rfl rfl rfl rfl ?_ | refine AW_beq rfl Tryz.underlying4 rfl rfl ?_ | refine AW_bne rfl Tryz.underlying4 rfl rfl ?_ | refine AW_len rfl rfl Tryz.underlying22 ?_ | refine AW_ge rfl rfl rfl ?_ | refine AW_gt rfl rfl rfl ?_ | refine AW_fieldAddrg rfl rfl rfl rfl tf_neg rfl rfl ?_ | refine AW_neg rfl rfl rfl rfl rfl rfl ?_ | refine AW_ne rfl rfl rfl ?_ | refine AW_loadg rfl rfl rfl rfl ty_bool rfl rfl rfl hM ?_ | refine AW_loadg rfl rfl rfl rfl ty_bool rfl rfl rfl hN ?_
                | refine AW_pickT rfl rfl rfl ?_
                | refine AW_pickF rfl rfl rfl ?_
                | refine AW_skip rfl rfl rfl rfl ?_
                | refine AW_pickTg rfl rfl rfl rfl rfl rfl ?_
                | refine AW_pickFg rfl rfl rfl rfl rfl rfl ?_
                | refine AW_moveg rfl rfl rfl rfl rfl ?_
                | refine AW_notg rfl rfl rfl rfl rfl ?_
                | refine AW_eqg rfl rfl rfl rfl rfl rfl ?_
                | refine AW_eq rfl rfl rfl ?_
                | refine AW_loadg rfl rfl rfl rfl ty_num rfl rfl rfl rfl ?_
                | refine AW_callg rfl rfl rfl rfl rfl (by first | exact z0) ?_
                | refine AW_nil (fun (h : false = true) => by cases h) ?_
                | refine AW_nil (fun (_ : true = true) => by kernel_rfl) ?_
                | refine Wp_block ?_
                | refine Wp_skip ?_
                | refine Wp_exit ?_
                | refine Wp_ret ?_
              exact ⟨.inr rfl, _, .tmp _ _ _ _ rfl .nil, rfl⟩
            · have zn := ct_lzF n n1
              have hN := signT (z := n) (by omega)
              repeat first
                | refine Wp_seq ?_
                | refine Wp_region tm_mixed ?_
                | refine AW_move rfl rfl ?_
                | refine AW_assign rfl rfl ?_
                | refine AW_load rfl ty_num rfl rfl rfl rfl ?_
                | refine AW_store ty_num rfl rfl rfl rfl rfl rfl rfl ?_
                | refine AW_extract rfl rfl rfl ?_
                | refine AW_alloc rfl tz_num ?_
                | refine AW_box rfl rfl (row := true) rfl (fun h => by cases h) rfl ?_
                | refine AW_not rfl rfl ?_
                | refine AW_build rfl tb_num rfl ?_
                | refine AW_call rfl rfl (by first | exact kj | exact zm | exact zn) ?_
                | refine AW_ints rfl tu_nums ti_num ti_size ti_zero rfl rfl rfl (by first | exact .cons _ _ _ _ _ rfl (.cons _ _ _ _ _ rfl (.nil _)) | exact .cons _ _ _ _ _ rfl (.cons _ _ _ _ _ rfl (.cons _ _ _ _ _ rfl (.cons _ _ _ _ _ rfl (.nil _)))) | exact .cons _ _ _ _ _ rfl (.cons _ _ _ _ _ rfl (.cons _ _ _ _ _ rfl (.nil _))) | exact .cons _ _ _ _ _ rfl (.cons _ _ _ _ _ rfl (.cons _ _ _ _ _ rfl (.cons _ _ _ _ _ rfl (.cons _ _ _ _ _ rfl (.nil _)))))) ?_
                | refine AW_fieldAddr rfl tf_neg rfl rfl ?_ | refine AW_fieldAddr rfl tf_mag rfl rfl ?_ | refine AW_load rfl ty_bool rfl rfl rfl rfl ?_ | refine AW_load rfl ty_mag rfl rfl rfl rfl ?_ | refine AW_beq rfl Tryz.underlying4 rfl rfl ?_ | refine AW_bne rfl Tryz.underlying4 rfl rfl ?_ | refine AW_len rfl rfl Tryz.underlying22 ?_ | refine AW_ge rfl rfl rfl ?_ | refine AW_gt rfl rfl rfl ?_ | refine AW_fieldAddrg rfl rfl rfl rfl tf_neg rfl rfl ?_ | refine AW_neg rfl rfl rfl rfl rfl rfl ?_ | refine AW_ne rfl rfl rfl ?_ | refine AW_loadg rfl rfl rfl rfl ty_bool rfl rfl rfl hM ?_ | refine AW_loadg rfl rfl rfl rfl ty_bool rfl rfl rfl hN ?_
                | refine AW_pickT rfl rfl rfl ?_
                | refine AW_pickF rfl rfl rfl ?_
                | refine AW_skip rfl rfl rfl rfl ?_
                | refine AW_pickTg rfl rfl rfl rfl rfl rfl ?_
                | refine AW_pickFg rfl rfl rfl rfl rfl rfl ?_
                | refine AW_moveg rfl rfl rfl rfl rfl ?_
                | refine AW_notg rfl rfl rfl rfl rfl ?_
                | refine AW_eqg rfl rfl rfl rfl rfl rfl ?_
                | refine AW_eq rfl rfl rfl ?_
                | refine AW_loadg rfl rfl rfl rfl ty_num rfl rfl rfl rfl ?_
                | refine AW_callg rfl rfl rfl rfl rfl (by first | exact kj | exact zm | exact zn) ?_
                | refine AW_nil (fun (h : false = true) => by cases h) ?_
                | refine AW_nil (fun (_ : true = true) => by kernel_rfl) ?_
                | refine Wp_block ?_
                | refine Wp_skip ?_
                | refine Wp_exit ?_
                | refine Wp_ret ?_
              refine Wp_condT rfl ?_
              repeat first
                | refine Wp_seq ?_
                | refine Wp_region tm_mixed ?_
                | refine AW_move rfl rfl ?_
                | refine AW_assign rfl rfl ?_
                | refine AW_load rfl ty_num rfl rfl rfl rfl ?_
                | refine AW_store ty_num rfl rfl rfl rfl rfl rfl rfl ?_
                | refine AW_extract rfl rfl rfl ?_
                | refine AW_alloc rfl tz_num ?_
                | refine AW_box rfl rfl (row := true) rfl (fun h => by cases h) rfl ?_
                | refine AW_not rfl rfl ?_
                | refine AW_build rfl tb_num rfl ?_
                | refine AW_call rfl rfl (by first | exact z0) ?_
                | refine AW_ints rfl tu_nums ti_num ti_size ti_zero rfl rfl rfl (by first | exact .cons _ _ _ _ _ rfl (.cons _ _ _ _ _ rfl (.nil _)) | exact .cons _ _ _ _ _ rfl (.cons _ _ _ _ _ rfl (.cons _ _ _ _ _ rfl (.cons _ _ _ _ _ rfl (.nil _)))) | exact .cons _ _ _ _ _ rfl (.cons _ _ _ _ _ rfl (.cons _ _ _ _ _ rfl (.nil _))) | exact .cons _ _ _ _ _ rfl (.cons _ _ _ _ _ rfl (.cons _ _ _ _ _ rfl (.cons _ _ _ _ _ rfl (.cons _ _ _ _ _ rfl (.nil _)))))) ?_
                | refine AW_fieldAddr rfl tf_neg rfl rfl ?_ | refine AW_fieldAddr rfl tf_mag rfl rfl ?_ | refine AW_load rfl ty_bool rfl rfl rfl rfl ?_ | refine AW_load rfl ty_mag rfl rfl rfl rfl ?_ | refine AW_beq rfl Tryz.underlying4 rfl rfl ?_ | refine AW_bne rfl Tryz.underlying4 rfl rfl ?_ | refine AW_len rfl rfl Tryz.underlying22 ?_ | refine AW_ge rfl rfl rfl ?_ | refine AW_gt rfl rfl rfl ?_ | refine AW_fieldAddrg rfl rfl rfl rfl tf_neg rfl rfl ?_ | refine AW_neg rfl rfl rfl rfl rfl rfl ?_ | refine AW_ne rfl rfl rfl ?_ | refine AW_loadg rfl rfl rfl rfl ty_bool rfl rfl rfl hM ?_ | refine AW_loadg rfl rfl rfl rfl ty_bool rfl rfl rfl hN ?_
                | refine AW_pickT rfl rfl rfl ?_
                | refine AW_pickF rfl rfl rfl ?_
                | refine AW_skip rfl rfl rfl rfl ?_
                | refine AW_pickTg rfl rfl rfl rfl rfl rfl ?_
                | refine AW_pickFg rfl rfl rfl rfl rfl rfl ?_
                | refine AW_moveg rfl rfl rfl rfl rfl ?_
                | refine AW_notg rfl rfl rfl rfl rfl ?_
                | refine AW_eqg rfl rfl rfl rfl rfl rfl ?_
                | refine AW_eq rfl rfl rfl ?_
                | refine AW_loadg rfl rfl rfl rfl ty_num rfl rfl rfl rfl ?_
                | refine AW_callg rfl rfl rfl rfl rfl (by first | exact z0) ?_
                | refine AW_nil (fun (h : false = true) => by cases h) ?_
                | refine AW_nil (fun (_ : true = true) => by kernel_rfl) ?_
                | refine Wp_block ?_
                | refine Wp_skip ?_
                | refine Wp_exit ?_
                | refine Wp_ret ?_
              exact ⟨.inr rfl, _, .tmp _ _ _ _ rfl .nil, rfl⟩
      · have m0 : 0 < m := by omega
        have n0 : 0 < n := by omega
        have zm := ct_lzF m (by omega)
        have zn := ct_lzF n (by omega)
        have hM := signF (z := m) (by omega)
        have hN := signF (z := n) (by omega)
        have kj := ct_gJoin r m s n (by omega) (by omega) (by omega) (by omega) m0 n0
        have lg : lc (gcdZ m n).natAbs ≤ 16 := by unfold gcdZ; rw [Int.natAbs_natCast]; exact gcd_small lm ln
        have gp : 0 < gcdZ m n := gcdZ_pos (by omega)
        have kg := ct_gOf m n (by omega) (by omega)
        have kk := ct_gLcm m n (by omega) (by omega)
        have eL : lcmR m n = rawOf (lcmZ m n) := by unfold lcmR; rw [if_neg (by omega)]
        rw [eL] at kk
        have lL : lc (lcmZ m n).natAbs ≤ 32 := by
          unfold lcmZ
          exact lc_times (j := 16) (k := 16) (by rw [Int.natAbs_natCast]; exact lm) (by rw [Int.natAbs_natCast]; exact Nat.le_trans (lc_mono (Nat.div_le_self _ _)) ln)
        have Lp : 0 < lcmZ m n := by
          rw [(lcmZ_eq m0 n0).1]
          refine Int.mul_pos ?_ n0
          have h1 := Int.tdiv_mul_cancel (gcdZ_dvd_left m n)
          rcases Int.lt_trichotomy (m.tdiv (gcdZ m n)) 0 with h | h | h
          · have := Int.mul_neg_of_neg_of_pos h gp; omega
          · rw [h] at h1; omega
          · exact h
        have kd := ct_differs r s (gcdZ m n) (by omega) (by omega) (by omega)
        -- the rests of x
        have q1 := ct_ModP x m (by omega) (by omega) m0
        have q2 := ct_ModP x n (by omega) (by omega) n0
        have lq1 : lc (x % m).natAbs ≤ 16 := Nat.le_trans (lc_mono (mod_size m0)) lm
        have lq2 : lc (x % n).natAbs ≤ 16 := Nat.le_trans (lc_mono (mod_size n0)) ln
        have hjx : joins (x % m) m (x % n) n := by
          rw [joins_iff m0 n0]
          have e1 : m * (x / m) + x % m = x := Int.mul_ediv_add_emod x m
          have e2 : n * (x / n) + x % n = x := Int.mul_ediv_add_emod x n
          have d1 : gcdZ m n ∣ m * (x / m) := Int.dvd_trans (gcdZ_dvd_left m n) (Int.dvd_mul_right _ _)
          have d2 : gcdZ m n ∣ n * (x / n) := Int.dvd_trans (gcdZ_dvd_right m n) (Int.dvd_mul_right _ _)
          have h2 := Int.dvd_sub d2 d1
          rwa [show n * (x / n) - m * (x / m) = x % m - x % n by omega] at h2
        have kz := ct_gJoin (x % m) m (x % n) n (by omega) (by omega) (by omega) (by omega) m0 n0
        rw [if_pos hjx] at kz
        have ez : joinX (x % m) m (x % n) n = x % lcmZ m n := by
          obtain ⟨j0, j1, j2, j3⟩ := joinX_spec m0 n0 hjx
          refine crt_unique m0 n0 j0 j1 (Int.emod_nonneg _ (by omega)) (Int.emod_lt_of_pos _ Lp) ?_ ?_
          · have e1 : m * (x / m) + x % m = x := Int.mul_ediv_add_emod x m
            have e2 : lcmZ m n * (x / lcmZ m n) + x % lcmZ m n = x := Int.mul_ediv_add_emod x (lcmZ m n)
            have d1 : m ∣ lcmZ m n * (x / lcmZ m n) := Int.dvd_trans ⟨_, (lcmZ_eq m0 n0).2⟩ (Int.dvd_mul_right _ _)
            have d2 : m ∣ m * (x / m) := Int.dvd_mul_right _ _
            have h2 := Int.dvd_add j2 (Int.dvd_sub d1 d2)
            rwa [show joinX (x % m) m (x % n) n - x % m + (lcmZ m n * (x / lcmZ m n) - m * (x / m)) = joinX (x % m) m (x % n) n - x % lcmZ m n by omega] at h2
          · have e1 : n * (x / n) + x % n = x := Int.mul_ediv_add_emod x n
            have e2 : lcmZ m n * (x / lcmZ m n) + x % lcmZ m n = x := Int.mul_ediv_add_emod x (lcmZ m n)
            have d1 : n ∣ lcmZ m n * (x / lcmZ m n) := Int.dvd_trans ⟨_, by rw [(lcmZ_eq m0 n0).1, Int.mul_comm]⟩ (Int.dvd_mul_right _ _)
            have d2 : n ∣ n * (x / n) := Int.dvd_mul_right _ _
            have h2 := Int.dvd_add j3 (Int.dvd_sub d1 d2)
            rwa [show joinX (x % m) m (x % n) n - x % n + (lcmZ m n * (x / lcmZ m n) - n * (x / n)) = joinX (x % m) m (x % n) n - x % lcmZ m n by omega] at h2
        rw [ez] at kz
        have q3 := ct_ModP x (lcmZ m n) (by omega) (by omega) Lp
        have lz : lc (x % lcmZ m n).natAbs ≤ 32 := Nat.le_trans (lc_mono (mod_size Lp)) lL
        have s1 := ct_SameT (rawOf (x % lcmZ m n)) (raw_len (by omega))
        have s2 := ct_SameT (rawOf (lcmZ m n)) (raw_len (by omega))
        by_cases hj : joins r m s n
        · rw [if_pos hj] at kj
          rw [dvdB_true ((joins_iff m0 n0).1 hj)] at kd
          obtain ⟨j0, j1, j2, j3⟩ := joinX_spec m0 n0 hj
          have ly : lc (joinX r m s n).natAbs ≤ 32 := Nat.le_trans (lc_mono (by omega)) lL
          have hY := signF j0
          have kb := ct_below (joinX r m s n) (lcmZ m n) (by omega) (by omega)
          rw [decide_eq_true j1] at kb
          have kd1 := ct_differs (joinX r m s n) r m (by omega) (by omega) (by omega)
          rw [dvdB_true j2] at kd1
          have kd2 := ct_differs (joinX r m s n) s n (by omega) (by omega) (by omega)
          rw [dvdB_true j3] at kd2
          repeat first
            | refine Wp_seq ?_
            | refine Wp_region tm_mixed ?_
            | refine AW_move rfl rfl ?_
            | refine AW_assign rfl rfl ?_
            | refine AW_load rfl ty_num rfl rfl rfl rfl ?_
            | refine AW_store ty_num rfl rfl rfl rfl rfl rfl rfl ?_
            | refine AW_extract rfl rfl rfl ?_
            | refine AW_alloc rfl tz_num ?_
            | refine AW_box rfl rfl (row := true) rfl (fun h => by cases h) rfl ?_
            | refine AW_not rfl rfl ?_
            | refine AW_build rfl tb_num rfl ?_
            | refine AW_call rfl rfl (by first | exact kj | exact zm | exact zn) ?_
            | refine AW_ints rfl tu_nums ti_num ti_size ti_zero rfl rfl rfl (by first | exact .cons _ _ _ _ _ rfl (.cons _ _ _ _ _ rfl (.nil _)) | exact .cons _ _ _ _ _ rfl (.cons _ _ _ _ _ rfl (.cons _ _ _ _ _ rfl (.cons _ _ _ _ _ rfl (.nil _)))) | exact .cons _ _ _ _ _ rfl (.cons _ _ _ _ _ rfl (.cons _ _ _ _ _ rfl (.nil _))) | exact .cons _ _ _ _ _ rfl (.cons _ _ _ _ _ rfl (.cons _ _ _ _ _ rfl (.cons _ _ _ _ _ rfl (.cons _ _ _ _ _ rfl (.nil _)))))) ?_
            | refine AW_fieldAddr rfl tf_neg rfl rfl ?_ | refine AW_fieldAddr rfl tf_mag rfl rfl ?_ | refine AW_load rfl ty_bool rfl rfl rfl rfl ?_ | refine AW_load rfl ty_mag rfl rfl rfl rfl ?_ | refine AW_beq rfl Tryz.underlying4 rfl rfl ?_ | refine AW_bne rfl Tryz.underlying4 rfl rfl ?_ | refine AW_len rfl rfl Tryz.underlying22 ?_ | refine AW_ge rfl rfl rfl ?_ | refine AW_gt rfl rfl rfl ?_ | refine AW_fieldAddrg rfl rfl rfl rfl tf_neg rfl rfl ?_ | refine AW_neg rfl rfl rfl rfl rfl rfl ?_ | refine AW_ne rfl rfl rfl ?_ | refine AW_loadg rfl rfl rfl rfl ty_bool rfl rfl rfl hM ?_ | refine AW_loadg rfl rfl rfl rfl ty_bool rfl rfl rfl hN ?_
            | refine AW_pickT rfl rfl rfl ?_
            | refine AW_pickF rfl rfl rfl ?_
            | refine AW_skip rfl rfl rfl rfl ?_
            | refine AW_pickTg rfl rfl rfl rfl rfl rfl ?_
            | refine AW_pickFg rfl rfl rfl rfl rfl rfl ?_
            | refine AW_moveg rfl rfl rfl rfl rfl ?_
            | refine AW_notg rfl rfl rfl rfl rfl ?_
            | refine AW_eqg rfl rfl rfl rfl rfl rfl ?_
            | refine AW_eq rfl rfl rfl ?_
            | refine AW_loadg rfl rfl rfl rfl ty_num rfl rfl rfl rfl ?_
            | refine AW_callg rfl rfl rfl rfl rfl (by first | exact kj | exact zm | exact zn) ?_
            | refine AW_nil (fun (h : false = true) => by cases h) ?_
            | refine AW_nil (fun (_ : true = true) => by kernel_rfl) ?_
            | refine Wp_block ?_
            | refine Wp_skip ?_
            | refine Wp_exit ?_
            | refine Wp_ret ?_
          refine Wp_condF rfl ?_
          repeat first
            | refine Wp_seq ?_
            | refine Wp_region tm_mixed ?_
            | refine AW_move rfl rfl ?_
            | refine AW_assign rfl rfl ?_
            | refine AW_load rfl ty_num rfl rfl rfl rfl ?_
            | refine AW_store ty_num rfl rfl rfl rfl rfl rfl rfl ?_
            | refine AW_extract rfl rfl rfl ?_
            | refine AW_alloc rfl tz_num ?_
            | refine AW_box rfl rfl (row := true) rfl (fun h => by cases h) rfl ?_
            | refine AW_not rfl rfl ?_
            | refine AW_build rfl tb_num rfl ?_
            | refine AW_call rfl rfl (by first | exact kg | exact kk | exact kd) ?_
            | refine AW_ints rfl tu_nums ti_num ti_size ti_zero rfl rfl rfl (by first | exact .cons _ _ _ _ _ rfl (.cons _ _ _ _ _ rfl (.nil _)) | exact .cons _ _ _ _ _ rfl (.cons _ _ _ _ _ rfl (.cons _ _ _ _ _ rfl (.cons _ _ _ _ _ rfl (.nil _)))) | exact .cons _ _ _ _ _ rfl (.cons _ _ _ _ _ rfl (.cons _ _ _ _ _ rfl (.nil _))) | exact .cons _ _ _ _ _ rfl (.cons _ _ _ _ _ rfl (.cons _ _ _ _ _ rfl (.cons _ _ _ _ _ rfl (.cons _ _ _ _ _ rfl (.nil _)))))) ?_
            | refine AW_fieldAddr rfl tf_neg rfl rfl ?_ | refine AW_fieldAddr rfl tf_mag rfl rfl ?_ | refine AW_load rfl ty_bool rfl rfl rfl rfl ?_ | refine AW_load rfl ty_mag rfl rfl rfl rfl ?_ | refine AW_beq rfl Tryz.underlying4 rfl rfl ?_ | refine AW_bne rfl Tryz.underlying4 rfl rfl ?_ | refine AW_len rfl rfl Tryz.underlying22 ?_ | refine AW_ge rfl rfl rfl ?_ | refine AW_gt rfl rfl rfl ?_ | refine AW_fieldAddrg rfl rfl rfl rfl tf_neg rfl rfl ?_ | refine AW_neg rfl rfl rfl rfl rfl rfl ?_ | refine AW_ne rfl rfl rfl ?_ | refine AW_loadg rfl rfl rfl rfl ty_bool rfl rfl rfl hM ?_ | refine AW_loadg rfl rfl rfl rfl ty_bool rfl rfl rfl hN ?_
            | refine AW_pickT rfl rfl rfl ?_
            | refine AW_pickF rfl rfl rfl ?_
            | refine AW_skip rfl rfl rfl rfl ?_
            | refine AW_pickTg rfl rfl rfl rfl rfl rfl ?_
            | refine AW_pickFg rfl rfl rfl rfl rfl rfl ?_
            | refine AW_moveg rfl rfl rfl rfl rfl ?_
            | refine AW_notg rfl rfl rfl rfl rfl ?_
            | refine AW_eqg rfl rfl rfl rfl rfl rfl ?_
            | refine AW_eq rfl rfl rfl ?_
            | refine AW_loadg rfl rfl rfl rfl ty_num rfl rfl rfl rfl ?_
            | refine AW_callg rfl rfl rfl rfl rfl (by first | exact kg | exact kk | exact kd) ?_
            | refine AW_nil (fun (h : false = true) => by cases h) ?_
            | refine AW_nil (fun (_ : true = true) => by kernel_rfl) ?_
            | refine Wp_block ?_
            | refine Wp_skip ?_
            | refine Wp_exit ?_
            | refine Wp_ret ?_
          refine Wp_condF rfl ?_
          repeat first
            | refine Wp_seq ?_
            | refine Wp_region tm_mixed ?_
            | refine AW_move rfl rfl ?_
            | refine AW_assign rfl rfl ?_
            | refine AW_load rfl ty_num rfl rfl rfl rfl ?_
            | refine AW_store ty_num rfl rfl rfl rfl rfl rfl rfl ?_
            | refine AW_extract rfl rfl rfl ?_
            | refine AW_alloc rfl tz_num ?_
            | refine AW_box rfl rfl (row := true) rfl (fun h => by cases h) rfl ?_
            | refine AW_not rfl rfl ?_
            | refine AW_build rfl tb_num rfl ?_
            | refine AW_call rfl rfl (by first | exact kb | exact s2 | exact kd1 | exact kd2) ?_
            | refine AW_ints rfl tu_nums ti_num ti_size ti_zero rfl rfl rfl (by first | exact .cons _ _ _ _ _ rfl (.cons _ _ _ _ _ rfl (.nil _)) | exact .cons _ _ _ _ _ rfl (.cons _ _ _ _ _ rfl (.cons _ _ _ _ _ rfl (.cons _ _ _ _ _ rfl (.nil _)))) | exact .cons _ _ _ _ _ rfl (.cons _ _ _ _ _ rfl (.cons _ _ _ _ _ rfl (.nil _))) | exact .cons _ _ _ _ _ rfl (.cons _ _ _ _ _ rfl (.cons _ _ _ _ _ rfl (.cons _ _ _ _ _ rfl (.cons _ _ _ _ _ rfl (.nil _)))))) ?_
            | refine AW_fieldAddr rfl tf_neg rfl rfl ?_ | refine AW_fieldAddr rfl tf_mag rfl rfl ?_ | refine AW_load rfl ty_bool rfl rfl rfl rfl ?_ | refine AW_load rfl ty_mag rfl rfl rfl rfl ?_ | refine AW_beq rfl Tryz.underlying4 rfl rfl ?_ | refine AW_bne rfl Tryz.underlying4 rfl rfl ?_ | refine AW_len rfl rfl Tryz.underlying22 ?_ | refine AW_ge rfl rfl rfl ?_ | refine AW_gt rfl rfl rfl ?_ | refine AW_fieldAddrg rfl rfl rfl rfl tf_neg rfl rfl ?_ | refine AW_neg rfl rfl rfl rfl rfl rfl ?_ | refine AW_ne rfl rfl rfl ?_ | refine AW_loadg rfl rfl rfl rfl ty_bool rfl rfl rfl hM ?_ | refine AW_loadg rfl rfl rfl rfl ty_bool rfl rfl rfl hN ?_ | refine AW_loadg rfl rfl rfl rfl ty_bool rfl rfl rfl hY ?_
            | refine AW_pickT rfl rfl rfl ?_
            | refine AW_pickF rfl rfl rfl ?_
            | refine AW_skip rfl rfl rfl rfl ?_
            | refine AW_pickTg rfl rfl rfl rfl rfl rfl ?_
            | refine AW_pickFg rfl rfl rfl rfl rfl rfl ?_
            | refine AW_moveg rfl rfl rfl rfl rfl ?_
            | refine AW_notg rfl rfl rfl rfl rfl ?_
            | refine AW_eqg rfl rfl rfl rfl rfl rfl ?_
            | refine AW_eq rfl rfl rfl ?_
            | refine AW_loadg rfl rfl rfl rfl ty_num rfl rfl rfl rfl ?_
            | refine AW_callg rfl rfl rfl rfl rfl (by first | exact kb | exact s2 | exact kd1 | exact kd2) ?_
            | refine AW_nil (fun (h : false = true) => by cases h) ?_
            | refine AW_nil (fun (_ : true = true) => by kernel_rfl) ?_
            | refine Wp_block ?_
            | refine Wp_skip ?_
            | refine Wp_exit ?_
            | refine Wp_ret ?_
          refine Wp_condF rfl ?_
          repeat first
            | refine Wp_seq ?_
            | refine Wp_region tm_mixed ?_
            | refine AW_move rfl rfl ?_
            | refine AW_assign rfl rfl ?_
            | refine AW_load rfl ty_num rfl rfl rfl rfl ?_
            | refine AW_store ty_num rfl rfl rfl rfl rfl rfl rfl ?_
            | refine AW_extract rfl rfl rfl ?_
            | refine AW_alloc rfl tz_num ?_
            | refine AW_box rfl rfl (row := true) rfl (fun h => by cases h) rfl ?_
            | refine AW_not rfl rfl ?_
            | refine AW_build rfl tb_num rfl ?_
            | refine AW_call rfl rfl (by first | exact q1 | exact q2 | exact kz | exact q3 | exact s1 | exact s2) ?_
            | refine AW_ints rfl tu_nums ti_num ti_size ti_zero rfl rfl rfl (by first | exact .cons _ _ _ _ _ rfl (.cons _ _ _ _ _ rfl (.nil _)) | exact .cons _ _ _ _ _ rfl (.cons _ _ _ _ _ rfl (.cons _ _ _ _ _ rfl (.cons _ _ _ _ _ rfl (.nil _)))) | exact .cons _ _ _ _ _ rfl (.cons _ _ _ _ _ rfl (.cons _ _ _ _ _ rfl (.nil _))) | exact .cons _ _ _ _ _ rfl (.cons _ _ _ _ _ rfl (.cons _ _ _ _ _ rfl (.cons _ _ _ _ _ rfl (.cons _ _ _ _ _ rfl (.nil _)))))) ?_
            | refine AW_fieldAddr rfl tf_neg rfl rfl ?_ | refine AW_fieldAddr rfl tf_mag rfl rfl ?_ | refine AW_load rfl ty_bool rfl rfl rfl rfl ?_ | refine AW_load rfl ty_mag rfl rfl rfl rfl ?_ | refine AW_beq rfl Tryz.underlying4 rfl rfl ?_ | refine AW_bne rfl Tryz.underlying4 rfl rfl ?_ | refine AW_len rfl rfl Tryz.underlying22 ?_ | refine AW_ge rfl rfl rfl ?_ | refine AW_gt rfl rfl rfl ?_ | refine AW_fieldAddrg rfl rfl rfl rfl tf_neg rfl rfl ?_ | refine AW_neg rfl rfl rfl rfl rfl rfl ?_ | refine AW_ne rfl rfl rfl ?_ | refine AW_loadg rfl rfl rfl rfl ty_bool rfl rfl rfl hM ?_ | refine AW_loadg rfl rfl rfl rfl ty_bool rfl rfl rfl hN ?_
            | refine AW_pickT rfl rfl rfl ?_
            | refine AW_pickF rfl rfl rfl ?_
            | refine AW_skip rfl rfl rfl rfl ?_
            | refine AW_pickTg rfl rfl rfl rfl rfl rfl ?_
            | refine AW_pickFg rfl rfl rfl rfl rfl rfl ?_
            | refine AW_moveg rfl rfl rfl rfl rfl ?_
            | refine AW_notg rfl rfl rfl rfl rfl ?_
            | refine AW_eqg rfl rfl rfl rfl rfl rfl ?_
            | refine AW_eq rfl rfl rfl ?_
            | refine AW_loadg rfl rfl rfl rfl ty_num rfl rfl rfl rfl ?_
            | refine AW_callg rfl rfl rfl rfl rfl (by first | exact q1 | exact q2 | exact kz | exact q3 | exact s1 | exact s2) ?_
            | refine AW_nil (fun (h : false = true) => by cases h) ?_
            | refine AW_nil (fun (_ : true = true) => by kernel_rfl) ?_
            | refine Wp_block ?_
            | refine Wp_skip ?_
            | refine Wp_exit ?_
            | refine Wp_ret ?_
          exact ⟨.inr rfl, _, .tmp _ _ _ _ rfl .nil, rfl⟩
        · rw [if_neg hj] at kj
          rw [dvdB_false (by omega) (fun h => hj ((joins_iff m0 n0).2 h))] at kd
          repeat first
            | refine Wp_seq ?_
            | refine Wp_region tm_mixed ?_
            | refine AW_move rfl rfl ?_
            | refine AW_assign rfl rfl ?_
            | refine AW_load rfl ty_num rfl rfl rfl rfl ?_
            | refine AW_store ty_num rfl rfl rfl rfl rfl rfl rfl ?_
            | refine AW_extract rfl rfl rfl ?_
            | refine AW_alloc rfl tz_num ?_
            | refine AW_box rfl rfl (row := true) rfl (fun h => by cases h) rfl ?_
            | refine AW_not rfl rfl ?_
            | refine AW_build rfl tb_num rfl ?_
            | refine AW_call rfl rfl (by first | exact kj | exact zm | exact zn) ?_
            | refine AW_ints rfl tu_nums ti_num ti_size ti_zero rfl rfl rfl (by first | exact .cons _ _ _ _ _ rfl (.cons _ _ _ _ _ rfl (.nil _)) | exact .cons _ _ _ _ _ rfl (.cons _ _ _ _ _ rfl (.cons _ _ _ _ _ rfl (.cons _ _ _ _ _ rfl (.nil _)))) | exact .cons _ _ _ _ _ rfl (.cons _ _ _ _ _ rfl (.cons _ _ _ _ _ rfl (.nil _))) | exact .cons _ _ _ _ _ rfl (.cons _ _ _ _ _ rfl (.cons _ _ _ _ _ rfl (.cons _ _ _ _ _ rfl (.cons _ _ _ _ _ rfl (.nil _)))))) ?_
            | refine AW_fieldAddr rfl tf_neg rfl rfl ?_ | refine AW_fieldAddr rfl tf_mag rfl rfl ?_ | refine AW_load rfl ty_bool rfl rfl rfl rfl ?_ | refine AW_load rfl ty_mag rfl rfl rfl rfl ?_ | refine AW_beq rfl Tryz.underlying4 rfl rfl ?_ | refine AW_bne rfl Tryz.underlying4 rfl rfl ?_ | refine AW_len rfl rfl Tryz.underlying22 ?_ | refine AW_ge rfl rfl rfl ?_ | refine AW_gt rfl rfl rfl ?_ | refine AW_fieldAddrg rfl rfl rfl rfl tf_neg rfl rfl ?_ | refine AW_neg rfl rfl rfl rfl rfl rfl ?_ | refine AW_ne rfl rfl rfl ?_ | refine AW_loadg rfl rfl rfl rfl ty_bool rfl rfl rfl hM ?_ | refine AW_loadg rfl rfl rfl rfl ty_bool rfl rfl rfl hN ?_
            | refine AW_pickT rfl rfl rfl ?_
            | refine AW_pickF rfl rfl rfl ?_
            | refine AW_skip rfl rfl rfl rfl ?_
            | refine AW_pickTg rfl rfl rfl rfl rfl rfl ?_
            | refine AW_pickFg rfl rfl rfl rfl rfl rfl ?_
            | refine AW_moveg rfl rfl rfl rfl rfl ?_
            | refine AW_notg rfl rfl rfl rfl rfl ?_
            | refine AW_eqg rfl rfl rfl rfl rfl rfl ?_
            | refine AW_eq rfl rfl rfl ?_
            | refine AW_loadg rfl rfl rfl rfl ty_num rfl rfl rfl rfl ?_
            | refine AW_callg rfl rfl rfl rfl rfl (by first | exact kj | exact zm | exact zn) ?_
            | refine AW_nil (fun (h : false = true) => by cases h) ?_
            | refine AW_nil (fun (_ : true = true) => by kernel_rfl) ?_
            | refine Wp_block ?_
            | refine Wp_skip ?_
            | refine Wp_exit ?_
            | refine Wp_ret ?_
          refine Wp_condF rfl ?_
          repeat first
            | refine Wp_seq ?_
            | refine Wp_region tm_mixed ?_
            | refine AW_move rfl rfl ?_
            | refine AW_assign rfl rfl ?_
            | refine AW_load rfl ty_num rfl rfl rfl rfl ?_
            | refine AW_store ty_num rfl rfl rfl rfl rfl rfl rfl ?_
            | refine AW_extract rfl rfl rfl ?_
            | refine AW_alloc rfl tz_num ?_
            | refine AW_box rfl rfl (row := true) rfl (fun h => by cases h) rfl ?_
            | refine AW_not rfl rfl ?_
            | refine AW_build rfl tb_num rfl ?_
            | refine AW_call rfl rfl (by first | exact kg | exact kk | exact kd) ?_
            | refine AW_ints rfl tu_nums ti_num ti_size ti_zero rfl rfl rfl (by first | exact .cons _ _ _ _ _ rfl (.cons _ _ _ _ _ rfl (.nil _)) | exact .cons _ _ _ _ _ rfl (.cons _ _ _ _ _ rfl (.cons _ _ _ _ _ rfl (.cons _ _ _ _ _ rfl (.nil _)))) | exact .cons _ _ _ _ _ rfl (.cons _ _ _ _ _ rfl (.cons _ _ _ _ _ rfl (.nil _))) | exact .cons _ _ _ _ _ rfl (.cons _ _ _ _ _ rfl (.cons _ _ _ _ _ rfl (.cons _ _ _ _ _ rfl (.cons _ _ _ _ _ rfl (.nil _)))))) ?_
            | refine AW_fieldAddr rfl tf_neg rfl rfl ?_ | refine AW_fieldAddr rfl tf_mag rfl rfl ?_ | refine AW_load rfl ty_bool rfl rfl rfl rfl ?_ | refine AW_load rfl ty_mag rfl rfl rfl rfl ?_ | refine AW_beq rfl Tryz.underlying4 rfl rfl ?_ | refine AW_bne rfl Tryz.underlying4 rfl rfl ?_ | refine AW_len rfl rfl Tryz.underlying22 ?_ | refine AW_ge rfl rfl rfl ?_ | refine AW_gt rfl rfl rfl ?_ | refine AW_fieldAddrg rfl rfl rfl rfl tf_neg rfl rfl ?_ | refine AW_neg rfl rfl rfl rfl rfl rfl ?_ | refine AW_ne rfl rfl rfl ?_ | refine AW_loadg rfl rfl rfl rfl ty_bool rfl rfl rfl hM ?_ | refine AW_loadg rfl rfl rfl rfl ty_bool rfl rfl rfl hN ?_
            | refine AW_pickT rfl rfl rfl ?_
            | refine AW_pickF rfl rfl rfl ?_
            | refine AW_skip rfl rfl rfl rfl ?_
            | refine AW_pickTg rfl rfl rfl rfl rfl rfl ?_
            | refine AW_pickFg rfl rfl rfl rfl rfl rfl ?_
            | refine AW_moveg rfl rfl rfl rfl rfl ?_
            | refine AW_notg rfl rfl rfl rfl rfl ?_
            | refine AW_eqg rfl rfl rfl rfl rfl rfl ?_
            | refine AW_eq rfl rfl rfl ?_
            | refine AW_loadg rfl rfl rfl rfl ty_num rfl rfl rfl rfl ?_
            | refine AW_callg rfl rfl rfl rfl rfl (by first | exact kg | exact kk | exact kd) ?_
            | refine AW_nil (fun (h : false = true) => by cases h) ?_
            | refine AW_nil (fun (_ : true = true) => by kernel_rfl) ?_
            | refine Wp_block ?_
            | refine Wp_skip ?_
            | refine Wp_exit ?_
            | refine Wp_ret ?_
          refine Wp_condT rfl ?_
          repeat first
            | refine Wp_seq ?_
            | refine Wp_region tm_mixed ?_
            | refine AW_move rfl rfl ?_
            | refine AW_assign rfl rfl ?_
            | refine AW_load rfl ty_num rfl rfl rfl rfl ?_
            | refine AW_store ty_num rfl rfl rfl rfl rfl rfl rfl ?_
            | refine AW_extract rfl rfl rfl ?_
            | refine AW_alloc rfl tz_num ?_
            | refine AW_box rfl rfl (row := true) rfl (fun h => by cases h) rfl ?_
            | refine AW_not rfl rfl ?_
            | refine AW_build rfl tb_num rfl ?_
            | refine AW_call rfl rfl (by first | exact z0) ?_
            | refine AW_ints rfl tu_nums ti_num ti_size ti_zero rfl rfl rfl (by first | exact .cons _ _ _ _ _ rfl (.cons _ _ _ _ _ rfl (.nil _)) | exact .cons _ _ _ _ _ rfl (.cons _ _ _ _ _ rfl (.cons _ _ _ _ _ rfl (.cons _ _ _ _ _ rfl (.nil _)))) | exact .cons _ _ _ _ _ rfl (.cons _ _ _ _ _ rfl (.cons _ _ _ _ _ rfl (.nil _))) | exact .cons _ _ _ _ _ rfl (.cons _ _ _ _ _ rfl (.cons _ _ _ _ _ rfl (.cons _ _ _ _ _ rfl (.cons _ _ _ _ _ rfl (.nil _)))))) ?_
            | refine AW_fieldAddr rfl tf_neg rfl rfl ?_ | refine AW_fieldAddr rfl tf_mag rfl rfl ?_ | refine AW_load rfl ty_bool rfl rfl rfl rfl ?_ | refine AW_load rfl ty_mag rfl rfl rfl rfl ?_ | refine AW_beq rfl Tryz.underlying4 rfl rfl ?_ | refine AW_bne rfl Tryz.underlying4 rfl rfl ?_ | refine AW_len rfl rfl Tryz.underlying22 ?_ | refine AW_ge rfl rfl rfl ?_ | refine AW_gt rfl rfl rfl ?_ | refine AW_fieldAddrg rfl rfl rfl rfl tf_neg rfl rfl ?_ | refine AW_neg rfl rfl rfl rfl rfl rfl ?_ | refine AW_ne rfl rfl rfl ?_ | refine AW_loadg rfl rfl rfl rfl ty_bool rfl rfl rfl hM ?_ | refine AW_loadg rfl rfl rfl rfl ty_bool rfl rfl rfl hN ?_
            | refine AW_pickT rfl rfl rfl ?_
            | refine AW_pickF rfl rfl rfl ?_
            | refine AW_skip rfl rfl rfl rfl ?_
            | refine AW_pickTg rfl rfl rfl rfl rfl rfl ?_
            | refine AW_pickFg rfl rfl rfl rfl rfl rfl ?_
            | refine AW_moveg rfl rfl rfl rfl rfl ?_
            | refine AW_notg rfl rfl rfl rfl rfl ?_
            | refine AW_eqg rfl rfl rfl rfl rfl rfl ?_
            | refine AW_eq rfl rfl rfl ?_
            | refine AW_loadg rfl rfl rfl rfl ty_num rfl rfl rfl rfl ?_
            | refine AW_callg rfl rfl rfl rfl rfl (by first | exact z0) ?_
            | refine AW_nil (fun (h : false = true) => by cases h) ?_
            | refine AW_nil (fun (_ : true = true) => by kernel_rfl) ?_
            | refine Wp_block ?_
            | refine Wp_skip ?_
            | refine Wp_exit ?_
            | refine Wp_ret ?_
          refine Wp_condF rfl ?_
          repeat first
            | refine Wp_seq ?_
            | refine Wp_region tm_mixed ?_
            | refine AW_move rfl rfl ?_
            | refine AW_assign rfl rfl ?_
            | refine AW_load rfl ty_num rfl rfl rfl rfl ?_
            | refine AW_store ty_num rfl rfl rfl rfl rfl rfl rfl ?_
            | refine AW_extract rfl rfl rfl ?_
            | refine AW_alloc rfl tz_num ?_
            | refine AW_box rfl rfl (row := true) rfl (fun h => by cases h) rfl ?_
            | refine AW_not rfl rfl ?_
            | refine AW_build rfl tb_num rfl ?_
            | refine AW_call rfl rfl (by first | exact q1 | exact q2 | exact kz | exact q3 | exact s1 | exact s2) ?_
            | refine AW_ints rfl tu_nums ti_num ti_size ti_zero rfl rfl rfl (by first | exact .cons _ _ _ _ _ rfl (.cons _ _ _ _ _ rfl (.nil _)) | exact .cons _ _ _ _ _ rfl (.cons _ _ _ _ _ rfl (.cons _ _ _ _ _ rfl (.cons _ _ _ _ _ rfl (.nil _)))) | exact .cons _ _ _ _ _ rfl (.cons _ _ _ _ _ rfl (.cons _ _ _ _ _ rfl (.nil _))) | exact .cons _ _ _ _ _ rfl (.cons _ _ _ _ _ rfl (.cons _ _ _ _ _ rfl (.cons _ _ _ _ _ rfl (.cons _ _ _ _ _ rfl (.nil _)))))) ?_
            | refine AW_fieldAddr rfl tf_neg rfl rfl ?_ | refine AW_fieldAddr rfl tf_mag rfl rfl ?_ | refine AW_load rfl ty_bool rfl rfl rfl rfl ?_ | refine AW_load rfl ty_mag rfl rfl rfl rfl ?_ | refine AW_beq rfl Tryz.underlying4 rfl rfl ?_ | refine AW_bne rfl Tryz.underlying4 rfl rfl ?_ | refine AW_len rfl rfl Tryz.underlying22 ?_ | refine AW_ge rfl rfl rfl ?_ | refine AW_gt rfl rfl rfl ?_ | refine AW_fieldAddrg rfl rfl rfl rfl tf_neg rfl rfl ?_ | refine AW_neg rfl rfl rfl rfl rfl rfl ?_ | refine AW_ne rfl rfl rfl ?_ | refine AW_loadg rfl rfl rfl rfl ty_bool rfl rfl rfl hM ?_ | refine AW_loadg rfl rfl rfl rfl ty_bool rfl rfl rfl hN ?_
            | refine AW_pickT rfl rfl rfl ?_
            | refine AW_pickF rfl rfl rfl ?_
            | refine AW_skip rfl rfl rfl rfl ?_
            | refine AW_pickTg rfl rfl rfl rfl rfl rfl ?_
            | refine AW_pickFg rfl rfl rfl rfl rfl rfl ?_
            | refine AW_moveg rfl rfl rfl rfl rfl ?_
            | refine AW_notg rfl rfl rfl rfl rfl ?_
            | refine AW_eqg rfl rfl rfl rfl rfl rfl ?_
            | refine AW_eq rfl rfl rfl ?_
            | refine AW_loadg rfl rfl rfl rfl ty_num rfl rfl rfl rfl ?_
            | refine AW_callg rfl rfl rfl rfl rfl (by first | exact q1 | exact q2 | exact kz | exact q3 | exact s1 | exact s2) ?_
            | refine AW_nil (fun (h : false = true) => by cases h) ?_
            | refine AW_nil (fun (_ : true = true) => by kernel_rfl) ?_
            | refine Wp_block ?_
            | refine Wp_skip ?_
            | refine Wp_exit ?_
            | refine Wp_ret ?_
          exact ⟨.inr rfl, _, .tmp _ _ _ _ rfl .nil, rfl⟩
end Go.Proofs.YtonbhpadoplpkaaGreat
/- Arguments are opened; what a call leaves reads as it read. -/
namespace Go.Proofs.YtonbhpadoplpkaaGreat
open Go.ChangeShapes Go.WideShapes Go.ChangeAt Go.RowKit Go.Deep
theorem laid_out : laidOutB Tryz.prog = true := by kernel_rfl
section
variable {H : Type} {enc : TypeId × Value → H}
theorem since_of_below {w w' : World} (h : Below w.heap.size w w') : w.Since w.heap.size w' := ⟨h.os, h.tape, h.output, h.size, h.block⟩
/-- What was read before reads so behind a call that wrote nothing old. -/
theorem stays {t : TypeId} (hr : Tryz.prog.readableRec t = true) (hrow : t < Tryz.prog.types.size) {W W' : World} {sp : Nat → Bool} {v : Value} {d : DataW H} {ps : List MemPlace}
    (h : DataW.Trod enc Tryz.prog W 0 (fun _ => true) true t v d ps) (hb : Below W.heap.size W W') (hl : ∀ p ∈ ps, p.block < W.heap.size) (hs : ∀ p ∈ ps, sp p.block = true) : DataW.Trod enc Tryz.prog W' 0 sp true t v d ps :=
  WideElems.Trod_stays laid_out hr hrow h (fun p hp => (since_of_below hb).sameAt (hl p hp)) hs
set_option maxRecDepth 10000 in
/-- The statement of a law's row, out of a walk that wrote nothing old. -/
theorem post_law {f : Func} {s : ChangeSpec} {W W' : World} {args : Array Value} {v : Value} {ds gs : List (DataW H)} {before : List MemPlace}
    (hW : DataW.Whole enc Tryz.prog f.params.toList s.vars false W args.toList ds gs before) (hb : Below W.heap.size W W')
    (hres : ∀ (b : Nat) (sp : Nat → Bool) (hd : Bool), DataW.TrodAll enc Tryz.prog W' b sp hd f.resultTypes.toList (v.resultList f.resultTypes.size) (s.fn H (ds ++ gs)).results [])
    (hargs : ∀ sp : Nat → Bool, (∀ p ∈ before, sp p.block = true) → DataW.TrodAll enc Tryz.prog W' 0 sp true f.params.toList args.toList (s.fn H (ds ++ gs)).args before)
    (hvars : ∀ sp : Nat → Bool, DataW.TrodVars enc Tryz.prog W' sp s.vars (s.fn H (ds ++ gs)).vars [])
    (hok : ∀ (j : Nat) (t : TypeId) (r : Value), f.resultTypes[j]? = some t → (v.resultList f.resultTypes.size)[j]? = some r → Value.okWide Tryz.prog W' .any 0 t r) :
    s.post enc Tryz.prog f false true false false W args v W' := by
  have hlt : ∀ p ∈ before, p.block < W.heap.size := fun p hp => hW.lt p hp
  have hold : ∀ p ∈ before, (fun b => decide (b < W.heap.size)) p.block = true := fun p hp => by simpa using hlt p hp
  refine ⟨ds, gs, before, [], before, [], hW, hres _ _ _, hargs _ hold, hvars _, World.keptBut_mono (fun p hp => ⟨hp, .inr (.inl hp)⟩) ((since_of_below hb).frame (· ∈ before)), fun _ => ?_⟩
  obtain ⟨_, _, _, _, _, hz, _⟩ := hW
  refine ⟨hok, _, _, ([] ++ before) ++ [], ⟨[] ++ before, [], trodAll_append (hargs _ (fun _ _ => rfl)) (hres _ _ _), hvars _, rfl, ?_, fun h => by cases h⟩, fun p hp _ => by simpa using hp⟩
  intro b off hp
  have hp' : MemPlace.cell b off ∈ before := by simpa using hp
  rw [(since_of_below hb).frozen (a := ⟨b, off, none⟩) (hlt _ hp')]
  exact hz b off hp'
theorem cells_rec : Tryz.prog.cellsOf 24 = 2 := by kernel_rfl
theorem cells_u64 : Tryz.prog.cellsOf 85 = 1 := by kernel_rfl
theorem cells_bool : Tryz.prog.cellsOf 4 = 1 := by kernel_rfl
theorem cells_limbs : Tryz.prog.cellsOf 22 = 1 := by kernel_rfl
/-- A slice of limbs that came in. -/
theorem open_limbs {W : World} {v : Value} {x : DataW H × List MemPlace} {n : Nat} (h : DataW.trod enc Tryz.prog W 0 (fun _ => true) true n 22 [v] = some x) : ∃ A l c xs, v = .slice A l c ∧ l = xs.length ∧ l ≤ c ∧ Lim W W.heap.size A xs := by
  rcases open_ints (k := .u64) Tryz.underlying22 Tryz.underlying85 cells_u64 h with ⟨e, _⟩ | ⟨a, len, cap, zs, e, _, hl, hm, hzl, _, hc, hwf⟩
  · injection e with e
    exact ⟨none, 0, 0, [], e, rfl, Nat.le_refl _, Lim.nil _ _ _⟩
  · injection e with e
    simp only [if_true] at hzl
    have hnn : ∀ z ∈ zs, 0 ≤ z ∧ z < 18446744073709551616 := by
      intro z hz
      have h1 := hwf z hz
      simp only [Lit.wf, IntKind.min, IntKind.max, IntKind.signed, IntKind.bits, Bool.and_eq_true] at h1
      obtain ⟨h2, h3⟩ := h1
      simp at h2 h3
      omega
    refine ⟨some a, len, cap, (zs.take len).map Int.toNat, e, by simp; omega, hl, ?_, fun hp => ⟨a, rfl, ?_, fun j hj => ?_⟩⟩
    · intro y hy
      obtain ⟨z, hz, rfl⟩ := List.mem_map.1 hy
      have h1 := hnn z (List.mem_of_mem_take hz)
      rw [W64_eq]; omega
    · simp at hp
      have h1 := hc 0 (by omega)
      have h2 := World.block_lt_of_cell? W (a.add 0) h1
      rwa [block_of_add] at h2
    · simp at hj
      rw [hc j (by omega)]
      have h1 := hnn (zs.getD j 0) (by
        rw [List.getD_eq_getElem?_getD, List.getElem?_eq_getElem (by omega)]; exact List.getElem_mem _)
      have e1 : ((zs.take len).map Int.toNat).getD j 0 = (zs.getD j 0).toNat := by
        have h2 : j < len := by omega
        have h3 : j < zs.length := by omega
        simp [h2, h3]
      rw [e1]
      congr 2
      omega
set_option maxRecDepth 100000 in
/-- A record that came in. -/
theorem open_raw {W : World} {base : Nat} {v : Value} {d : DataW H} {ps : List MemPlace} (hv : Value.okWide Tryz.prog W .any base 24 v) (h : DataW.Trod enc Tryz.prog W 0 (fun _ => true) true 24 v d ps) : ∃ b A l c xs, v = .agg #[.bool b, .slice A l c] ∧ l = xs.length ∧ l ≤ c ∧ Lim W W.heap.size A xs := by
  obtain ⟨cs, rfl, hsz⟩ := okWide_struct Tryz.underlying24 hv
  rw [cells_rec] at hsz
  obtain ⟨fuel, hf⟩ := h
  obtain ⟨x, y, rfl⟩ : ∃ x y, cs = #[x, y] := by
    obtain ⟨l⟩ := cs
    match l, hsz with
    | [x, y], _ => exact ⟨x, y, rfl⟩
  obtain ⟨xs, k, hk, hxy, _, hxl, hg⟩ := DataW.trod_struct Tryz.underlying24 hf
  match xs, hxl with
  | [y0, y1], _ =>
    have g0 := hg 0 _ rfl
    have g1 := hg 1 _ rfl
    simp [Value.cells, cells_bool, cells_limbs] at g0 g1
    obtain ⟨b, e0, _⟩ := DataW.trod_bool Tryz.underlying4 g0
    obtain ⟨A, l, c, xs, e1, hl1, hc1, hlim⟩ := open_limbs g1
    injection e0 with e0
    exact ⟨b, A, l, c, xs, by rw [e0, e1], hl1, hc1, hlim⟩
end
end Go.Proofs.YtonbhpadoplpkaaGreat
