import Derived.Test.YtonbhpadoplpkaaGreatMe
import Derived.Test.YtonbhpadoplpkaaGreatProg
import Derived.WalkKit
import Derived.Laws.OwnMore
import Derived.Deep.Draws
import Derived.Deep.OwnRows
import Derived.Deep.LoopGhost
import Derived.Deep.QuietTactic
import Derived.BigQuiet
import Derived.Lib.Hide
import Derived.Maps.AppendAt
import Derived.Laws.Rows
import Derived.OneCell
import Derived.Shelf.Spec.BitsCarry
import Derived.Deep.DeepCutAuto
import Derived.Shelf.Small.Bits
import Derived.Shelf.Strconv.Itoa0
import Derived.Shelf.Bits.Mul64
import Derived.Lib.BitFns
import Derived.Deep.CutBlock
import Derived.BigRegion
import Derived.StillTailTactics
import Derived.Deep.AppendLies
import Derived.Orders
import Derived.Lib.SliceRun
import Derived.Deep.MidRow
import Derived.BigCall
import Derived.Great.BuildSlice
import Derived.Deep.RegionWith
import Derived.WalkMore
import Derived.Laws.EntriesVeiled
import Derived.Laws.CopyOwn
import Derived.Test.YtonbhpadoplpkaaGreatRows
import Derived.ProofKit
import Derived.OpenShut
import Derived.Deep.SlicePairs
import Derived.WideKeyArgs
/- Of: Law20m, Row. -/
/- The law of layer 20: zero, divides, below, differs; GcdMade. -/
namespace Go.Proofs.YtonbhpadoplpkaaGreat
open Go.RowKit Go.Deep
set_option maxRecDepth 100000 in
theorem ct_lz (x : Raw) : Ct Tryz.prog 38 [aNum x] (.val (aB ((x.2.length : Int) == 0))) := by
  refine ct_of_wp [.tmp 2] [(0, aNum x)] 7 Tryz.func38 rfl rfl rfl rfl rfl rfl rfl rfl ?_
  intro G0 w0
  have k1 := ct_Right (false, [])
  repeat first
    | refine Wp_seq ?_
    | refine Wp_region tm_mixed ?_
    | refine AW_move rfl rfl ?_
    | refine AW_assign rfl rfl ?_
    | refine AW_load rfl ty_num rfl rfl rfl rfl ?_
    | refine AW_store ty_num rfl rfl rfl rfl rfl rfl rfl ?_
    | refine AW_extract rfl rfl rfl ?_
    | refine AW_alloc rfl tz_num ?_
    | refine AW_box rfl rfl (row := true) rfl (fun h => by cases h) rfl ?_
    | refine AW_not rfl rfl ?_
    | refine AW_build rfl tb_num rfl ?_
    | refine AW_call rfl rfl (by first | exact k1) ?_
    | refine AW_ints rfl tu_nums ti_num ti_size ti_zero rfl rfl rfl (by first | exact .cons _ _ _ _ _ rfl (.cons _ _ _ _ _ rfl (.nil _)) | exact .cons _ _ _ _ _ rfl (.cons _ _ _ _ _ rfl (.cons _ _ _ _ _ rfl (.cons _ _ _ _ _ rfl (.nil _)))) | exact .cons _ _ _ _ _ rfl (.cons _ _ _ _ _ rfl (.cons _ _ _ _ _ rfl (.nil _))) | exact .cons _ _ _ _ _ rfl (.cons _ _ _ _ _ rfl (.cons _ _ _ _ _ rfl (.cons _ _ _ _ _ rfl (.cons _ _ _ _ _ rfl (.nil _)))))) ?_
    | refine AW_fieldAddr rfl tf_neg rfl rfl ?_ | refine AW_fieldAddr rfl tf_mag rfl rfl ?_ | refine AW_load rfl ty_bool rfl rfl rfl rfl ?_ | refine AW_load rfl ty_mag rfl rfl rfl rfl ?_ | refine AW_beq rfl Tryz.underlying4 rfl rfl ?_ | refine AW_bne rfl Tryz.underlying4 rfl rfl ?_ | refine AW_len rfl rfl Tryz.underlying22 ?_ | refine AW_ge rfl rfl rfl ?_ | refine AW_gt rfl rfl rfl ?_
    | refine AW_pickT rfl rfl rfl ?_
    | refine AW_pickF rfl rfl rfl ?_
    | refine AW_skip rfl rfl rfl rfl ?_
    | refine AW_pickTg rfl rfl rfl rfl rfl rfl ?_
    | refine AW_pickFg rfl rfl rfl rfl rfl rfl ?_
    | refine AW_moveg rfl rfl rfl rfl rfl ?_
    | refine AW_notg rfl rfl rfl rfl rfl ?_
    | refine AW_eqg rfl rfl rfl rfl rfl rfl ?_
    | refine AW_eq rfl rfl rfl ?_
    | refine AW_loadg rfl rfl rfl rfl ty_num rfl rfl rfl rfl ?_
    | refine AW_callg rfl rfl rfl rfl rfl (by first | exact k1) ?_
    | refine AW_nil (fun (h : false = true) => by cases h) ?_
    | refine AW_nil (fun (_ : true = true) => by kernel_rfl) ?_
    | refine Wp_block ?_
    | refine Wp_skip ?_
    | refine Wp_exit ?_
    | refine Wp_ret ?_
  exact ⟨.inr rfl, _, .tmp _ _ _ _ rfl .nil, rfl⟩
theorem ct_lzT (z : Int) (h : z = 0) : Ct Tryz.prog 38 [aZ z] (.val (aB true)) := by
  have := ct_lz (rawOf z)
  rw [rawOf_len0.2 h] at this
  exact this
theorem ct_lzF (z : Int) (h : z ≠ 0) : Ct Tryz.prog 38 [aZ z] (.val (aB false)) := by
  have := ct_lz (rawOf z)
  have e : (((rawOf z).2.length : Int) == 0) = false := beq_eq_false_iff_ne.2 (fun e => h (rawOf_len0.1 (by omega)))
  rw [e] at this
  exact this
/-- Does g divide x? -/
def dvdB (g x : Int) : Bool := if g = 0 then decide (x = 0) else decide (x.tmod g = 0)
theorem dvdB_true {g x : Int} (h : g ∣ x) : dvdB g x = true := by
  unfold dvdB
  by_cases h0 : g = 0
  · rw [if_pos h0]; subst h0; exact decide_eq_true (Int.zero_dvd.1 h)
  · rw [if_neg h0]; exact decide_eq_true (Int.tmod_eq_zero_of_dvd h)
set_option maxRecDepth 100000 in
theorem ct_divides (g x : Int) (hg : lc g.natAbs ≤ 1200) (hx : lc x.natAbs ≤ 1200) : Ct Tryz.prog 39 [aZ g, aZ x] (.val (aB (dvdB g x))) := by
  refine ct_of_wp [.tmp 4] [(0, aZ g), (1, aZ x)] 24 Tryz.func39 rfl rfl rfl rfl rfl rfl rfl rfl ?_
  intro G0 w0
  by_cases h0 : g = 0
  · have e : dvdB g x = decide (x = 0) := by unfold dvdB; rw [if_pos h0]
    rw [e]
    have k1 := ct_lzT g h0
    have k2 : Ct Tryz.prog 38 [aZ x] (.val (aB (decide (x = 0)))) := by
      by_cases hx : x = 0
      · rw [decide_eq_true hx]; exact ct_lzT x hx
      · rw [decide_eq_false hx]; exact ct_lzF x hx
    repeat first
      | refine Wp_seq ?_
      | refine Wp_region tm_mixed ?_
      | refine AW_move rfl rfl ?_
      | refine AW_assign rfl rfl ?_
      | refine AW_load rfl ty_num rfl rfl rfl rfl ?_
      | refine AW_store ty_num rfl rfl rfl rfl rfl rfl rfl ?_
      | refine AW_extract rfl rfl rfl ?_
      | refine AW_alloc rfl tz_num ?_
      | refine AW_box rfl rfl (row := true) rfl (fun h => by cases h) rfl ?_
      | refine AW_not rfl rfl ?_
      | refine AW_build rfl tb_num rfl ?_
      | refine AW_call rfl rfl (by first | exact k1) ?_
      | refine AW_ints rfl tu_nums ti_num ti_size ti_zero rfl rfl rfl (by first | exact .cons _ _ _ _ _ rfl (.cons _ _ _ _ _ rfl (.nil _)) | exact .cons _ _ _ _ _ rfl (.cons _ _ _ _ _ rfl (.cons _ _ _ _ _ rfl (.cons _ _ _ _ _ rfl (.nil _)))) | exact .cons _ _ _ _ _ rfl (.cons _ _ _ _ _ rfl (.cons _ _ _ _ _ rfl (.nil _))) | exact .cons _ _ _ _ _ rfl (.cons _ _ _ _ _ rfl (.cons _ _ _ _ _ rfl (.cons _ _ _ _ _ rfl (.cons _ _ _ _ _ rfl (.nil _)))))) ?_
      | refine AW_fieldAddr rfl tf_neg rfl rfl ?_ | refine AW_fieldAddr rfl tf_mag rfl rfl ?_ | refine AW_load rfl ty_bool rfl rfl rfl rfl ?_ | refine AW_load rfl ty_mag rfl rfl rfl rfl ?_ | refine AW_beq rfl Tryz.underlying4 rfl rfl ?_ | refine AW_bne rfl Tryz.underlying4 rfl rfl ?_ | refine AW_len rfl rfl Tryz.underlying22 ?_ | refine AW_ge rfl rfl rfl ?_ | refine AW_gt rfl rfl rfl ?_
      | refine AW_pickT rfl rfl rfl ?_
      | refine AW_pickF rfl rfl rfl ?_
      | refine AW_skip rfl rfl rfl rfl ?_
      | refine AW_pickTg rfl rfl rfl rfl rfl rfl ?_
      | refine AW_pickFg rfl rfl rfl rfl rfl rfl ?_
      | refine AW_moveg rfl rfl rfl rfl rfl ?_
      | refine AW_notg rfl rfl rfl rfl rfl ?_
      | refine AW_eqg rfl rfl rfl rfl rfl rfl ?_
      | refine AW_eq rfl rfl rfl ?_
      | refine AW_loadg rfl rfl rfl rfl ty_num rfl rfl rfl rfl ?_
      | refine AW_callg rfl rfl rfl rfl rfl (by first | exact k1) ?_
      | refine AW_nil (fun (h : false = true) => by cases h) ?_
      | refine AW_nil (fun (_ : true = true) => by kernel_rfl) ?_
      | refine Wp_block ?_
      | refine Wp_skip ?_
      | refine Wp_exit ?_
      | refine Wp_ret ?_
    refine Wp_condT rfl ?_
    repeat first
      | refine Wp_seq ?_
      | refine Wp_region tm_mixed ?_
      | refine AW_move rfl rfl ?_
      | refine AW_assign rfl rfl ?_
      | refine AW_load rfl ty_num rfl rfl rfl rfl ?_
      | refine AW_store ty_num rfl rfl rfl rfl rfl rfl rfl ?_
      | refine AW_extract rfl rfl rfl ?_
      | refine AW_alloc rfl tz_num ?_
      | refine AW_box rfl rfl (row := true) rfl (fun h => by cases h) rfl ?_
      | refine AW_not rfl rfl ?_
      | refine AW_build rfl tb_num rfl ?_
      | refine AW_call rfl rfl (by first | exact k2) ?_
      | refine AW_ints rfl tu_nums ti_num ti_size ti_zero rfl rfl rfl (by first | exact .cons _ _ _ _ _ rfl (.cons _ _ _ _ _ rfl (.nil _)) | exact .cons _ _ _ _ _ rfl (.cons _ _ _ _ _ rfl (.cons _ _ _ _ _ rfl (.cons _ _ _ _ _ rfl (.nil _)))) | exact .cons _ _ _ _ _ rfl (.cons _ _ _ _ _ rfl (.cons _ _ _ _ _ rfl (.nil _))) | exact .cons _ _ _ _ _ rfl (.cons _ _ _ _ _ rfl (.cons _ _ _ _ _ rfl (.cons _ _ _ _ _ rfl (.cons _ _ _ _ _ rfl (.nil _)))))) ?_
      | refine AW_fieldAddr rfl tf_neg rfl rfl ?_ | refine AW_fieldAddr rfl tf_mag rfl rfl ?_ | refine AW_load rfl ty_bool rfl rfl rfl rfl ?_ | refine AW_load rfl ty_mag rfl rfl rfl rfl ?_ | refine AW_beq rfl Tryz.underlying4 rfl rfl ?_ | refine AW_bne rfl Tryz.underlying4 rfl rfl ?_ | refine AW_len rfl rfl Tryz.underlying22 ?_ | refine AW_ge rfl rfl rfl ?_ | refine AW_gt rfl rfl rfl ?_
      | refine AW_pickT rfl rfl rfl ?_
      | refine AW_pickF rfl rfl rfl ?_
      | refine AW_skip rfl rfl rfl rfl ?_
      | refine AW_pickTg rfl rfl rfl rfl rfl rfl ?_
      | refine AW_pickFg rfl rfl rfl rfl rfl rfl ?_
      | refine AW_moveg rfl rfl rfl rfl rfl ?_
      | refine AW_notg rfl rfl rfl rfl rfl ?_
      | refine AW_eqg rfl rfl rfl rfl rfl rfl ?_
      | refine AW_eq rfl rfl rfl ?_
      | refine AW_loadg rfl rfl rfl rfl ty_num rfl rfl rfl rfl ?_
      | refine AW_callg rfl rfl rfl rfl rfl (by first | exact k2) ?_
      | refine AW_nil (fun (h : false = true) => by cases h) ?_
      | refine AW_nil (fun (_ : true = true) => by kernel_rfl) ?_
      | refine Wp_block ?_
      | refine Wp_skip ?_
      | refine Wp_exit ?_
      | refine Wp_ret ?_
    exact ⟨.inr rfl, _, .tmp _ _ _ _ rfl .nil, rfl⟩
  · have e : dvdB g x = decide (x.tmod g = 0) := by unfold dvdB; rw [if_neg h0]
    rw [e]
    have k1 := ct_lzF g h0
    have k2 := ct_Exact x g hx hg h0
    repeat first
      | refine Wp_seq ?_
      | refine Wp_region tm_mixed ?_
      | refine AW_move rfl rfl ?_
      | refine AW_assign rfl rfl ?_
      | refine AW_load rfl ty_num rfl rfl rfl rfl ?_
      | refine AW_store ty_num rfl rfl rfl rfl rfl rfl rfl ?_
      | refine AW_extract rfl rfl rfl ?_
      | refine AW_alloc rfl tz_num ?_
      | refine AW_box rfl rfl (row := true) rfl (fun h => by cases h) rfl ?_
      | refine AW_not rfl rfl ?_
      | refine AW_build rfl tb_num rfl ?_
      | refine AW_call rfl rfl (by first | exact k1) ?_
      | refine AW_ints rfl tu_nums ti_num ti_size ti_zero rfl rfl rfl (by first | exact .cons _ _ _ _ _ rfl (.cons _ _ _ _ _ rfl (.nil _)) | exact .cons _ _ _ _ _ rfl (.cons _ _ _ _ _ rfl (.cons _ _ _ _ _ rfl (.cons _ _ _ _ _ rfl (.nil _)))) | exact .cons _ _ _ _ _ rfl (.cons _ _ _ _ _ rfl (.cons _ _ _ _ _ rfl (.nil _))) | exact .cons _ _ _ _ _ rfl (.cons _ _ _ _ _ rfl (.cons _ _ _ _ _ rfl (.cons _ _ _ _ _ rfl (.cons _ _ _ _ _ rfl (.nil _)))))) ?_
      | refine AW_fieldAddr rfl tf_neg rfl rfl ?_ | refine AW_fieldAddr rfl tf_mag rfl rfl ?_ | refine AW_load rfl ty_bool rfl rfl rfl rfl ?_ | refine AW_load rfl ty_mag rfl rfl rfl rfl ?_ | refine AW_beq rfl Tryz.underlying4 rfl rfl ?_ | refine AW_bne rfl Tryz.underlying4 rfl rfl ?_ | refine AW_len rfl rfl Tryz.underlying22 ?_ | refine AW_ge rfl rfl rfl ?_ | refine AW_gt rfl rfl rfl ?_
      | refine AW_pickT rfl rfl rfl ?_
      | refine AW_pickF rfl rfl rfl ?_
      | refine AW_skip rfl rfl rfl rfl ?_
      | refine AW_pickTg rfl rfl rfl rfl rfl rfl ?_
      | refine AW_pickFg rfl rfl rfl rfl rfl rfl ?_
      | refine AW_moveg rfl rfl rfl rfl rfl ?_
      | refine AW_notg rfl rfl rfl rfl rfl ?_
      | refine AW_eqg rfl rfl rfl rfl rfl rfl ?_
      | refine AW_eq rfl rfl rfl ?_
      | refine AW_loadg rfl rfl rfl rfl ty_num rfl rfl rfl rfl ?_
      | refine AW_callg rfl rfl rfl rfl rfl (by first | exact k1) ?_
      | refine AW_nil (fun (h : false = true) => by cases h) ?_
      | refine AW_nil (fun (_ : true = true) => by kernel_rfl) ?_
      | refine Wp_block ?_
      | refine Wp_skip ?_
      | refine Wp_exit ?_
      | refine Wp_ret ?_
    refine Wp_condF rfl ?_
    repeat first
      | refine Wp_seq ?_
      | refine Wp_region tm_mixed ?_
      | refine AW_move rfl rfl ?_
      | refine AW_assign rfl rfl ?_
      | refine AW_load rfl ty_num rfl rfl rfl rfl ?_
      | refine AW_store ty_num rfl rfl rfl rfl rfl rfl rfl ?_
      | refine AW_extract rfl rfl rfl ?_
      | refine AW_alloc rfl tz_num ?_
      | refine AW_box rfl rfl (row := true) rfl (fun h => by cases h) rfl ?_
      | refine AW_not rfl rfl ?_
      | refine AW_build rfl tb_num rfl ?_
      | refine AW_call rfl rfl (by first | exact k2) ?_
      | refine AW_ints rfl tu_nums ti_num ti_size ti_zero rfl rfl rfl (by first | exact .cons _ _ _ _ _ rfl (.cons _ _ _ _ _ rfl (.nil _)) | exact .cons _ _ _ _ _ rfl (.cons _ _ _ _ _ rfl (.cons _ _ _ _ _ rfl (.cons _ _ _ _ _ rfl (.nil _)))) | exact .cons _ _ _ _ _ rfl (.cons _ _ _ _ _ rfl (.cons _ _ _ _ _ rfl (.nil _))) | exact .cons _ _ _ _ _ rfl (.cons _ _ _ _ _ rfl (.cons _ _ _ _ _ rfl (.cons _ _ _ _ _ rfl (.cons _ _ _ _ _ rfl (.nil _)))))) ?_
      | refine AW_fieldAddr rfl tf_neg rfl rfl ?_ | refine AW_fieldAddr rfl tf_mag rfl rfl ?_ | refine AW_load rfl ty_bool rfl rfl rfl rfl ?_ | refine AW_load rfl ty_mag rfl rfl rfl rfl ?_ | refine AW_beq rfl Tryz.underlying4 rfl rfl ?_ | refine AW_bne rfl Tryz.underlying4 rfl rfl ?_ | refine AW_len rfl rfl Tryz.underlying22 ?_ | refine AW_ge rfl rfl rfl ?_ | refine AW_gt rfl rfl rfl ?_
      | refine AW_pickT rfl rfl rfl ?_
      | refine AW_pickF rfl rfl rfl ?_
      | refine AW_skip rfl rfl rfl rfl ?_
      | refine AW_pickTg rfl rfl rfl rfl rfl rfl ?_
      | refine AW_pickFg rfl rfl rfl rfl rfl rfl ?_
      | refine AW_moveg rfl rfl rfl rfl rfl ?_
      | refine AW_notg rfl rfl rfl rfl rfl ?_
      | refine AW_eqg rfl rfl rfl rfl rfl rfl ?_
      | refine AW_eq rfl rfl rfl ?_
      | refine AW_loadg rfl rfl rfl rfl ty_num rfl rfl rfl rfl ?_
      | refine AW_callg rfl rfl rfl rfl rfl (by first | exact k2) ?_
      | refine AW_nil (fun (h : false = true) => by cases h) ?_
      | refine AW_nil (fun (_ : true = true) => by kernel_rfl) ?_
      | refine Wp_block ?_
      | refine Wp_skip ?_
      | refine Wp_exit ?_
      | refine Wp_ret ?_
    exact ⟨.inr rfl, _, .tmp _ _ _ _ rfl .nil, rfl⟩
set_option maxRecDepth 100000 in
theorem ct_below (a b : Int) (ha : lc a.natAbs ≤ 4096) (hb : lc b.natAbs ≤ 4096) : Ct Tryz.prog 43 [aZ a, aZ b] (.val (aB (decide (a < b)))) := by
  refine ct_of_wp [.tmp 4] [(0, aZ a), (1, aZ b)] 19 Tryz.func43 rfl rfl rfl rfl rfl rfl rfl rfl ?_
  intro G0 w0
  have k1 := ct_Cmp a b ha hb
  repeat first
    | refine Wp_seq ?_
    | refine Wp_region tm_mixed ?_
    | refine AW_move rfl rfl ?_
    | refine AW_assign rfl rfl ?_
    | refine AW_load rfl ty_num rfl rfl rfl rfl ?_
    | refine AW_store ty_num rfl rfl rfl rfl rfl rfl rfl ?_
    | refine AW_extract rfl rfl rfl ?_
    | refine AW_alloc rfl tz_num ?_
    | refine AW_box rfl rfl (row := true) rfl (fun h => by cases h) rfl ?_
    | refine AW_not rfl rfl ?_
    | refine AW_build rfl tb_num rfl ?_
    | refine AW_call rfl rfl (by first | exact k1) ?_
    | refine AW_ints rfl tu_nums ti_num ti_size ti_zero rfl rfl rfl (by first | exact .cons _ _ _ _ _ rfl (.cons _ _ _ _ _ rfl (.nil _)) | exact .cons _ _ _ _ _ rfl (.cons _ _ _ _ _ rfl (.cons _ _ _ _ _ rfl (.cons _ _ _ _ _ rfl (.nil _)))) | exact .cons _ _ _ _ _ rfl (.cons _ _ _ _ _ rfl (.cons _ _ _ _ _ rfl (.nil _))) | exact .cons _ _ _ _ _ rfl (.cons _ _ _ _ _ rfl (.cons _ _ _ _ _ rfl (.cons _ _ _ _ _ rfl (.cons _ _ _ _ _ rfl (.nil _)))))) ?_
    | refine AW_fieldAddr rfl tf_neg rfl rfl ?_ | refine AW_fieldAddr rfl tf_mag rfl rfl ?_ | refine AW_load rfl ty_bool rfl rfl rfl rfl ?_ | refine AW_load rfl ty_mag rfl rfl rfl rfl ?_ | refine AW_beq rfl Tryz.underlying4 rfl rfl ?_ | refine AW_bne rfl Tryz.underlying4 rfl rfl ?_ | refine AW_len rfl rfl Tryz.underlying22 ?_ | refine AW_ge rfl rfl rfl ?_ | refine AW_gt rfl rfl rfl ?_ | refine AW_ltg rfl rfl rfl rfl rfl rfl ?_
    | refine AW_pickT rfl rfl rfl ?_
    | refine AW_pickF rfl rfl rfl ?_
    | refine AW_skip rfl rfl rfl rfl ?_
    | refine AW_pickTg rfl rfl rfl rfl rfl rfl ?_
    | refine AW_pickFg rfl rfl rfl rfl rfl rfl ?_
    | refine AW_moveg rfl rfl rfl rfl rfl ?_
    | refine AW_notg rfl rfl rfl rfl rfl ?_
    | refine AW_eqg rfl rfl rfl rfl rfl rfl ?_
    | refine AW_eq rfl rfl rfl ?_
    | refine AW_loadg rfl rfl rfl rfl ty_num rfl rfl rfl rfl ?_
    | refine AW_callg rfl rfl rfl rfl rfl (by first | exact k1) ?_
    | refine AW_nil (fun (h : false = true) => by cases h) ?_
    | refine AW_nil (fun (_ : true = true) => by kernel_rfl) ?_
    | refine Wp_block ?_
    | refine Wp_skip ?_
    | refine Wp_exit ?_
    | refine Wp_ret ?_
  have e : decide (a < b) = decide (cmpZ a b < 0) := by rw [decide_eq_decide]; exact cmpZ_low.symm
  rw [e]
  exact ⟨.inr rfl, _, .tmp _ _ _ _ rfl .nil, rfl⟩
theorem raw_abs (z : Int) : (false, (rawOf z).2) = rawOf (z.natAbs : Int) := by
  unfold rawOf
  rw [decide_eq_false (show ¬ ((z.natAbs : Int) < 0) by omega), Int.natAbs_natCast]
theorem signF {z : Int} (h : 0 ≤ z) : mkAV false [AC.b (rawOf z).1] = aB false := by show AV.one (.b (decide (z < 0))) = _; rw [decide_eq_false (by omega)]
theorem signT {z : Int} (h : z < 0) : mkAV false [AC.b (rawOf z).1] = aB true := by show AV.one (.b (decide (z < 0))) = _; rw [decide_eq_true h]
def lcmV (a b : Int) : Int := if a = 0 ∨ b = 0 then 0 else lcmZ a b
theorem lcmR_eq (a b : Int) : lcmR a b = rawOf (lcmV a b) := by
  unfold lcmR lcmV
  split
  · exact rawOf_zero.symm
  · rfl
theorem lcmV_nonneg (a b : Int) : 0 ≤ lcmV a b := by
  unfold lcmV
  split
  · omega
  · unfold lcmZ; exact Int.mul_nonneg (Int.natCast_nonneg _) (Int.natCast_nonneg _)
theorem gcd_lcm (a b : Int) : gcdZ a b * lcmV a b = ((a * b).natAbs : Int) := by
  unfold lcmV
  split
  · rename_i h
    rcases h with h | h <;> subst h <;> simp
  · unfold gcdZ lcmZ
    rw [← Int.natCast_mul, ← Int.natCast_mul, Int.natAbs_mul]
    congr 1
    rw [Nat.mul_left_comm, Nat.mul_div_cancel' (Nat.gcd_dvd_right _ _)]
theorem lcmV_lc {a b : Int} (ha : lc a.natAbs ≤ 90) (hb : lc b.natAbs ≤ 90) : lc (lcmV a b).natAbs ≤ 180 := by
  unfold lcmV
  split
  · exact Nat.le_trans (lc_few (by decide)) (by decide)
  · unfold lcmZ
    exact lc_times (j := 90) (k := 90) (by rw [Int.natAbs_natCast]; exact ha) (by rw [Int.natAbs_natCast]; exact Nat.le_trans (lc_mono (Nat.div_le_self _ _)) hb)
theorem bz_made {a b : Int} : a * bzX a b + b * bzY a b = gcdZ a b := by
  by_cases h0 : b = 0
  · have eX : bzX a b = Int.sign a := by unfold bzX; rw [if_pos h0]
    have e : a * Int.sign a = (a.natAbs : Int) := by
      rcases Int.lt_trichotomy a 0 with h | h | h
      · rw [Int.sign_eq_neg_one_of_neg h]; omega
      · subst h; rfl
      · rw [Int.sign_eq_one_of_pos h]; omega
    rw [eX, h0, Int.zero_mul, Int.add_zero, e]
    unfold gcdZ
    rw [show (0 : Int).natAbs = 0 from rfl, Nat.gcd_zero_right]
  · obtain ⟨c, hc⟩ := (bzX_spec (a := a) h0).2.2
    have e : bzY a b = c := by unfold bzY; rw [if_neg h0, hc, Int.mul_tdiv_cancel_left _ h0]
    rw [e]; omega
theorem bzY_lc {a b : Int} (ha : lc a.natAbs ≤ 90) (hb : lc b.natAbs ≤ 90) : lc (bzX a b).natAbs ≤ 90 ∧ lc (bzY a b).natAbs ≤ 181 := by
  by_cases h0 : b = 0
  · have eX : bzX a b = Int.sign a := by unfold bzX; rw [if_pos h0]
    have eY : bzY a b = 0 := by unfold bzY; rw [if_pos h0]
    have hs : (Int.sign a).natAbs ≤ 1 := by
      rcases Int.lt_trichotomy a 0 with h | h | h
      · rw [Int.sign_eq_neg_one_of_neg h]; omega
      · subst h; exact Nat.zero_le _
      · rw [Int.sign_eq_one_of_pos h]; omega
    rw [eX, eY]
    exact ⟨lc_few (by omega), Nat.le_trans (lc_few (by decide)) (by decide)⟩
  · have lx : lc (bzX a b).natAbs ≤ 90 := Nat.le_trans (lc_mono (bzX_size h0)) hb
    refine ⟨lx, ?_⟩
    have lp : lc (a * bzX a b).natAbs ≤ 180 := lc_times ha lx
    have lg : lc (gcdZ a b).natAbs ≤ 90 := by unfold gcdZ; rw [Int.natAbs_natCast]; exact gcd_small ha hb
    have ls : lc (gcdZ a b - a * bzX a b).natAbs ≤ 181 := lc_sub (k := 180) (by omega) lp
    unfold bzY
    rw [if_neg h0]
    exact lc_tdiv ls
set_option maxHeartbeats 2000000 in
set_option maxRecDepth 100000 in
theorem ct_GcdMade (x y : Raw) (hx : Small x.2) (hy : Small y.2) : Ct Tryz.prog 7 [aNum x, aNum y] (.val (aB true)) := by
  refine ct_of_wp [.tmp 4] [(0, aNum x), (1, aNum y)] 242 Tryz.func7 rfl rfl rfl rfl rfl rfl rfl rfl ?_
  intro G0 w0
  have ka := ct_law20awake
  have kl := ct_law20long [x, y] (Nat.le_of_ble_eq_true rfl)
  cases hl : long16 [x, y] with
  | true =>
    rw [hl] at kl
    repeat first
      | refine Wp_seq ?_
      | refine Wp_region tm_mixed ?_
      | refine AW_move rfl rfl ?_
      | refine AW_assign rfl rfl ?_
      | refine AW_load rfl ty_num rfl rfl rfl rfl ?_
      | refine AW_store ty_num rfl rfl rfl rfl rfl rfl rfl ?_
      | refine AW_extract rfl rfl rfl ?_
      | refine AW_alloc rfl tz_num ?_
      | refine AW_box rfl rfl (row := true) rfl (fun h => by cases h) rfl ?_
      | refine AW_not rfl rfl ?_
      | refine AW_build rfl tb_num rfl ?_
      | refine AW_call rfl rfl (by first | exact ka | exact kl) ?_
      | refine AW_ints rfl tu_nums ti_num ti_size ti_zero rfl rfl rfl (by first | exact .cons _ _ _ _ _ rfl (.cons _ _ _ _ _ rfl (.nil _)) | exact .cons _ _ _ _ _ rfl (.cons _ _ _ _ _ rfl (.cons _ _ _ _ _ rfl (.cons _ _ _ _ _ rfl (.nil _)))) | exact .cons _ _ _ _ _ rfl (.cons _ _ _ _ _ rfl (.cons _ _ _ _ _ rfl (.nil _))) | exact .cons _ _ _ _ _ rfl (.cons _ _ _ _ _ rfl (.cons _ _ _ _ _ rfl (.cons _ _ _ _ _ rfl (.cons _ _ _ _ _ rfl (.nil _)))))) ?_
      | refine AW_fieldAddr rfl tf_neg rfl rfl ?_ | refine AW_fieldAddr rfl tf_mag rfl rfl ?_ | refine AW_load rfl ty_bool rfl rfl rfl rfl ?_ | refine AW_load rfl ty_mag rfl rfl rfl rfl ?_ | refine AW_beq rfl Tryz.underlying4 rfl rfl ?_ | refine AW_bne rfl Tryz.underlying4 rfl rfl ?_ | refine AW_len rfl rfl Tryz.underlying22 ?_ | refine AW_ge rfl rfl rfl ?_ | refine AW_gt rfl rfl rfl ?_
      | refine AW_pickT rfl rfl rfl ?_
      | refine AW_pickF rfl rfl rfl ?_
      | refine AW_skip rfl rfl rfl rfl ?_
      | refine AW_pickTg rfl rfl rfl rfl rfl rfl ?_
      | refine AW_pickFg rfl rfl rfl rfl rfl rfl ?_
      | refine AW_moveg rfl rfl rfl rfl rfl ?_
      | refine AW_notg rfl rfl rfl rfl rfl ?_
      | refine AW_eqg rfl rfl rfl rfl rfl rfl ?_
      | refine AW_eq rfl rfl rfl ?_
      | refine AW_loadg rfl rfl rfl rfl ty_num rfl rfl rfl rfl ?_
      | refine AW_callg rfl rfl rfl rfl rfl (by first | exact ka | exact kl) ?_
      | refine AW_nil (fun (h : false = true) => by cases h) ?_
      | refine AW_nil (fun (_ : true = true) => by kernel_rfl) ?_
      | refine Wp_block ?_
      | refine Wp_skip ?_
      | refine Wp_exit ?_
      | refine Wp_ret ?_
    refine Wp_condF rfl ?_
    repeat first
      | refine Wp_seq ?_
      | refine Wp_region tm_mixed ?_
      | refine AW_move rfl rfl ?_
      | refine AW_assign rfl rfl ?_
      | refine AW_load rfl ty_num rfl rfl rfl rfl ?_
      | refine AW_store ty_num rfl rfl rfl rfl rfl rfl rfl ?_
      | refine AW_extract rfl rfl rfl ?_
      | refine AW_alloc rfl tz_num ?_
      | refine AW_box rfl rfl (row := true) rfl (fun h => by cases h) rfl ?_
      | refine AW_not rfl rfl ?_
      | refine AW_build rfl tb_num rfl ?_
      | refine AW_call rfl rfl (by first | exact ka | exact kl) ?_
      | refine AW_ints rfl tu_nums ti_num ti_size ti_zero rfl rfl rfl (by first | exact .cons _ _ _ _ _ rfl (.cons _ _ _ _ _ rfl (.nil _)) | exact .cons _ _ _ _ _ rfl (.cons _ _ _ _ _ rfl (.cons _ _ _ _ _ rfl (.cons _ _ _ _ _ rfl (.nil _)))) | exact .cons _ _ _ _ _ rfl (.cons _ _ _ _ _ rfl (.cons _ _ _ _ _ rfl (.nil _))) | exact .cons _ _ _ _ _ rfl (.cons _ _ _ _ _ rfl (.cons _ _ _ _ _ rfl (.cons _ _ _ _ _ rfl (.cons _ _ _ _ _ rfl (.nil _)))))) ?_
      | refine AW_fieldAddr rfl tf_neg rfl rfl ?_ | refine AW_fieldAddr rfl tf_mag rfl rfl ?_ | refine AW_load rfl ty_bool rfl rfl rfl rfl ?_ | refine AW_load rfl ty_mag rfl rfl rfl rfl ?_ | refine AW_beq rfl Tryz.underlying4 rfl rfl ?_ | refine AW_bne rfl Tryz.underlying4 rfl rfl ?_ | refine AW_len rfl rfl Tryz.underlying22 ?_ | refine AW_ge rfl rfl rfl ?_ | refine AW_gt rfl rfl rfl ?_
      | refine AW_pickT rfl rfl rfl ?_
      | refine AW_pickF rfl rfl rfl ?_
      | refine AW_skip rfl rfl rfl rfl ?_
      | refine AW_pickTg rfl rfl rfl rfl rfl rfl ?_
      | refine AW_pickFg rfl rfl rfl rfl rfl rfl ?_
      | refine AW_moveg rfl rfl rfl rfl rfl ?_
      | refine AW_notg rfl rfl rfl rfl rfl ?_
      | refine AW_eqg rfl rfl rfl rfl rfl rfl ?_
      | refine AW_eq rfl rfl rfl ?_
      | refine AW_loadg rfl rfl rfl rfl ty_num rfl rfl rfl rfl ?_
      | refine AW_callg rfl rfl rfl rfl rfl (by first | exact ka | exact kl) ?_
      | refine AW_nil (fun (h : false = true) => by cases h) ?_
      | refine AW_nil (fun (_ : true = true) => by kernel_rfl) ?_
      | refine Wp_block ?_
      | refine Wp_skip ?_
      | refine Wp_exit ?_
      | refine Wp_ret ?_
    refine Wp_condT rfl ?_
    repeat first
      | refine Wp_seq ?_
      | refine Wp_region tm_mixed ?_
      | refine AW_move rfl rfl ?_
      | refine AW_assign rfl rfl ?_
      | refine AW_load rfl ty_num rfl rfl rfl rfl ?_
      | refine AW_store ty_num rfl rfl rfl rfl rfl rfl rfl ?_
      | refine AW_extract rfl rfl rfl ?_
      | refine AW_alloc rfl tz_num ?_
      | refine AW_box rfl rfl (row := true) rfl (fun h => by cases h) rfl ?_
      | refine AW_not rfl rfl ?_
      | refine AW_build rfl tb_num rfl ?_
      | refine AW_call rfl rfl (by first | exact ka | exact kl) ?_
      | refine AW_ints rfl tu_nums ti_num ti_size ti_zero rfl rfl rfl (by first | exact .cons _ _ _ _ _ rfl (.cons _ _ _ _ _ rfl (.nil _)) | exact .cons _ _ _ _ _ rfl (.cons _ _ _ _ _ rfl (.cons _ _ _ _ _ rfl (.cons _ _ _ _ _ rfl (.nil _)))) | exact .cons _ _ _ _ _ rfl (.cons _ _ _ _ _ rfl (.cons _ _ _ _ _ rfl (.nil _))) | exact .cons _ _ _ _ _ rfl (.cons _ _ _ _ _ rfl (.cons _ _ _ _ _ rfl (.cons _ _ _ _ _ rfl (.cons _ _ _ _ _ rfl (.nil _)))))) ?_
      | refine AW_fieldAddr rfl tf_neg rfl rfl ?_ | refine AW_fieldAddr rfl tf_mag rfl rfl ?_ | refine AW_load rfl ty_bool rfl rfl rfl rfl ?_ | refine AW_load rfl ty_mag rfl rfl rfl rfl ?_ | refine AW_beq rfl Tryz.underlying4 rfl rfl ?_ | refine AW_bne rfl Tryz.underlying4 rfl rfl ?_ | refine AW_len rfl rfl Tryz.underlying22 ?_ | refine AW_ge rfl rfl rfl ?_ | refine AW_gt rfl rfl rfl ?_
      | refine AW_pickT rfl rfl rfl ?_
      | refine AW_pickF rfl rfl rfl ?_
      | refine AW_skip rfl rfl rfl rfl ?_
      | refine AW_pickTg rfl rfl rfl rfl rfl rfl ?_
      | refine AW_pickFg rfl rfl rfl rfl rfl rfl ?_
      | refine AW_moveg rfl rfl rfl rfl rfl ?_
      | refine AW_notg rfl rfl rfl rfl rfl ?_
      | refine AW_eqg rfl rfl rfl rfl rfl rfl ?_
      | refine AW_eq rfl rfl rfl ?_
      | refine AW_loadg rfl rfl rfl rfl ty_num rfl rfl rfl rfl ?_
      | refine AW_callg rfl rfl rfl rfl rfl (by first | exact ka | exact kl) ?_
      | refine AW_nil (fun (h : false = true) => by cases h) ?_
      | refine AW_nil (fun (_ : true = true) => by kernel_rfl) ?_
      | refine Wp_block ?_
      | refine Wp_skip ?_
      | refine Wp_exit ?_
      | refine Wp_ret ?_
    exact ⟨.inr rfl, _, .tmp _ _ _ _ rfl .nil, rfl⟩
  | false =>
    rw [hl] at kl
    obtain ⟨l1, l2⟩ := long16_two hl
    have k1 := ct_CopyInt x (by omega)
    have k2 := ct_CopyInt y (by omega)
    have r1 := ct_Right x
    have r2 := ct_Right y
    repeat first
      | refine Wp_seq ?_
      | refine Wp_region tm_mixed ?_
      | refine AW_move rfl rfl ?_
      | refine AW_assign rfl rfl ?_
      | refine AW_load rfl ty_num rfl rfl rfl rfl ?_
      | refine AW_store ty_num rfl rfl rfl rfl rfl rfl rfl ?_
      | refine AW_extract rfl rfl rfl ?_
      | refine AW_alloc rfl tz_num ?_
      | refine AW_box rfl rfl (row := true) rfl (fun h => by cases h) rfl ?_
      | refine AW_not rfl rfl ?_
      | refine AW_build rfl tb_num rfl ?_
      | refine AW_call rfl rfl (by first | exact ka | exact kl) ?_
      | refine AW_ints rfl tu_nums ti_num ti_size ti_zero rfl rfl rfl (by first | exact .cons _ _ _ _ _ rfl (.cons _ _ _ _ _ rfl (.nil _)) | exact .cons _ _ _ _ _ rfl (.cons _ _ _ _ _ rfl (.cons _ _ _ _ _ rfl (.cons _ _ _ _ _ rfl (.nil _)))) | exact .cons _ _ _ _ _ rfl (.cons _ _ _ _ _ rfl (.cons _ _ _ _ _ rfl (.nil _))) | exact .cons _ _ _ _ _ rfl (.cons _ _ _ _ _ rfl (.cons _ _ _ _ _ rfl (.cons _ _ _ _ _ rfl (.cons _ _ _ _ _ rfl (.nil _)))))) ?_
      | refine AW_fieldAddr rfl tf_neg rfl rfl ?_ | refine AW_fieldAddr rfl tf_mag rfl rfl ?_ | refine AW_load rfl ty_bool rfl rfl rfl rfl ?_ | refine AW_load rfl ty_mag rfl rfl rfl rfl ?_ | refine AW_beq rfl Tryz.underlying4 rfl rfl ?_ | refine AW_bne rfl Tryz.underlying4 rfl rfl ?_ | refine AW_len rfl rfl Tryz.underlying22 ?_ | refine AW_ge rfl rfl rfl ?_ | refine AW_gt rfl rfl rfl ?_
      | refine AW_pickT rfl rfl rfl ?_
      | refine AW_pickF rfl rfl rfl ?_
      | refine AW_skip rfl rfl rfl rfl ?_
      | refine AW_pickTg rfl rfl rfl rfl rfl rfl ?_
      | refine AW_pickFg rfl rfl rfl rfl rfl rfl ?_
      | refine AW_moveg rfl rfl rfl rfl rfl ?_
      | refine AW_notg rfl rfl rfl rfl rfl ?_
      | refine AW_eqg rfl rfl rfl rfl rfl rfl ?_
      | refine AW_eq rfl rfl rfl ?_
      | refine AW_loadg rfl rfl rfl rfl ty_num rfl rfl rfl rfl ?_
      | refine AW_callg rfl rfl rfl rfl rfl (by first | exact ka | exact kl) ?_
      | refine AW_nil (fun (h : false = true) => by cases h) ?_
      | refine AW_nil (fun (_ : true = true) => by kernel_rfl) ?_
      | refine Wp_block ?_
      | refine Wp_skip ?_
      | refine Wp_exit ?_
      | refine Wp_ret ?_
    refine Wp_condF rfl ?_
    repeat first
      | refine Wp_seq ?_
      | refine Wp_region tm_mixed ?_
      | refine AW_move rfl rfl ?_
      | refine AW_assign rfl rfl ?_
      | refine AW_load rfl ty_num rfl rfl rfl rfl ?_
      | refine AW_store ty_num rfl rfl rfl rfl rfl rfl rfl ?_
      | refine AW_extract rfl rfl rfl ?_
      | refine AW_alloc rfl tz_num ?_
      | refine AW_box rfl rfl (row := true) rfl (fun h => by cases h) rfl ?_
      | refine AW_not rfl rfl ?_
      | refine AW_build rfl tb_num rfl ?_
      | refine AW_call rfl rfl (by first | exact ka | exact kl) ?_
      | refine AW_ints rfl tu_nums ti_num ti_size ti_zero rfl rfl rfl (by first | exact .cons _ _ _ _ _ rfl (.cons _ _ _ _ _ rfl (.nil _)) | exact .cons _ _ _ _ _ rfl (.cons _ _ _ _ _ rfl (.cons _ _ _ _ _ rfl (.cons _ _ _ _ _ rfl (.nil _)))) | exact .cons _ _ _ _ _ rfl (.cons _ _ _ _ _ rfl (.cons _ _ _ _ _ rfl (.nil _))) | exact .cons _ _ _ _ _ rfl (.cons _ _ _ _ _ rfl (.cons _ _ _ _ _ rfl (.cons _ _ _ _ _ rfl (.cons _ _ _ _ _ rfl (.nil _)))))) ?_
      | refine AW_fieldAddr rfl tf_neg rfl rfl ?_ | refine AW_fieldAddr rfl tf_mag rfl rfl ?_ | refine AW_load rfl ty_bool rfl rfl rfl rfl ?_ | refine AW_load rfl ty_mag rfl rfl rfl rfl ?_ | refine AW_beq rfl Tryz.underlying4 rfl rfl ?_ | refine AW_bne rfl Tryz.underlying4 rfl rfl ?_ | refine AW_len rfl rfl Tryz.underlying22 ?_ | refine AW_ge rfl rfl rfl ?_ | refine AW_gt rfl rfl rfl ?_
      | refine AW_pickT rfl rfl rfl ?_
      | refine AW_pickF rfl rfl rfl ?_
      | refine AW_skip rfl rfl rfl rfl ?_
      | refine AW_pickTg rfl rfl rfl rfl rfl rfl ?_
      | refine AW_pickFg rfl rfl rfl rfl rfl rfl ?_
      | refine AW_moveg rfl rfl rfl rfl rfl ?_
      | refine AW_notg rfl rfl rfl rfl rfl ?_
      | refine AW_eqg rfl rfl rfl rfl rfl rfl ?_
      | refine AW_eq rfl rfl rfl ?_
      | refine AW_loadg rfl rfl rfl rfl ty_num rfl rfl rfl rfl ?_
      | refine AW_callg rfl rfl rfl rfl rfl (by first | exact ka | exact kl) ?_
      | refine AW_nil (fun (h : false = true) => by cases h) ?_
      | refine AW_nil (fun (_ : true = true) => by kernel_rfl) ?_
      | refine Wp_block ?_
      | refine Wp_skip ?_
      | refine Wp_exit ?_
      | refine Wp_ret ?_
    refine Wp_condF rfl ?_
    cases hr : (rightInt x && rightInt y) with
    | false =>
      have g1 := ct_gOf_bad x y hr
      have g2 := ct_gBezout_bad x y hr
      have g3 := ct_gLcm_bad x y hr
      have z0 := ct_lz (false, [])
      cases hx1 : rightInt x with
      | false =>
        rw [hx1] at r1
        repeat first
          | refine Wp_seq ?_
          | refine Wp_region tm_mixed ?_
          | refine AW_move rfl rfl ?_
          | refine AW_assign rfl rfl ?_
          | refine AW_load rfl ty_num rfl rfl rfl rfl ?_
          | refine AW_store ty_num rfl rfl rfl rfl rfl rfl rfl ?_
          | refine AW_extract rfl rfl rfl ?_
          | refine AW_alloc rfl tz_num ?_
          | refine AW_box rfl rfl (row := true) rfl (fun h => by cases h) rfl ?_
          | refine AW_not rfl rfl ?_
          | refine AW_build rfl tb_num rfl ?_
          | refine AW_call rfl rfl (by first | exact k1 | exact k2 | exact g1 | exact g2 | exact g3 | exact z0 | exact r1) ?_
          | refine AW_ints rfl tu_nums ti_num ti_size ti_zero rfl rfl rfl (by first | exact .cons _ _ _ _ _ rfl (.cons _ _ _ _ _ rfl (.nil _)) | exact .cons _ _ _ _ _ rfl (.cons _ _ _ _ _ rfl (.cons _ _ _ _ _ rfl (.cons _ _ _ _ _ rfl (.nil _)))) | exact .cons _ _ _ _ _ rfl (.cons _ _ _ _ _ rfl (.cons _ _ _ _ _ rfl (.nil _))) | exact .cons _ _ _ _ _ rfl (.cons _ _ _ _ _ rfl (.cons _ _ _ _ _ rfl (.cons _ _ _ _ _ rfl (.cons _ _ _ _ _ rfl (.nil _)))))) ?_
          | refine AW_fieldAddr rfl tf_neg rfl rfl ?_ | refine AW_fieldAddr rfl tf_mag rfl rfl ?_ | refine AW_load rfl ty_bool rfl rfl rfl rfl ?_ | refine AW_load rfl ty_mag rfl rfl rfl rfl ?_ | refine AW_beq rfl Tryz.underlying4 rfl rfl ?_ | refine AW_bne rfl Tryz.underlying4 rfl rfl ?_ | refine AW_len rfl rfl Tryz.underlying22 ?_ | refine AW_ge rfl rfl rfl ?_ | refine AW_gt rfl rfl rfl ?_
          | refine AW_pickT rfl rfl rfl ?_
          | refine AW_pickF rfl rfl rfl ?_
          | refine AW_skip rfl rfl rfl rfl ?_
          | refine AW_pickTg rfl rfl rfl rfl rfl rfl ?_
          | refine AW_pickFg rfl rfl rfl rfl rfl rfl ?_
          | refine AW_moveg rfl rfl rfl rfl rfl ?_
          | refine AW_notg rfl rfl rfl rfl rfl ?_
          | refine AW_eqg rfl rfl rfl rfl rfl rfl ?_
          | refine AW_eq rfl rfl rfl ?_
          | refine AW_loadg rfl rfl rfl rfl ty_num rfl rfl rfl rfl ?_
          | refine AW_callg rfl rfl rfl rfl rfl (by first | exact k1 | exact k2 | exact g1 | exact g2 | exact g3 | exact z0 | exact r1) ?_
          | refine AW_nil (fun (h : false = true) => by cases h) ?_
          | refine AW_nil (fun (_ : true = true) => by kernel_rfl) ?_
          | refine Wp_block ?_
          | refine Wp_skip ?_
          | refine Wp_exit ?_
          | refine Wp_ret ?_
        refine Wp_condT rfl ?_
        repeat first
          | refine Wp_seq ?_
          | refine Wp_region tm_mixed ?_
          | refine AW_move rfl rfl ?_
          | refine AW_assign rfl rfl ?_
          | refine AW_load rfl ty_num rfl rfl rfl rfl ?_
          | refine AW_store ty_num rfl rfl rfl rfl rfl rfl rfl ?_
          | refine AW_extract rfl rfl rfl ?_
          | refine AW_alloc rfl tz_num ?_
          | refine AW_box rfl rfl (row := true) rfl (fun h => by cases h) rfl ?_
          | refine AW_not rfl rfl ?_
          | refine AW_build rfl tb_num rfl ?_
          | refine AW_call rfl rfl (by first | exact z0) ?_
          | refine AW_ints rfl tu_nums ti_num ti_size ti_zero rfl rfl rfl (by first | exact .cons _ _ _ _ _ rfl (.cons _ _ _ _ _ rfl (.nil _)) | exact .cons _ _ _ _ _ rfl (.cons _ _ _ _ _ rfl (.cons _ _ _ _ _ rfl (.cons _ _ _ _ _ rfl (.nil _)))) | exact .cons _ _ _ _ _ rfl (.cons _ _ _ _ _ rfl (.cons _ _ _ _ _ rfl (.nil _))) | exact .cons _ _ _ _ _ rfl (.cons _ _ _ _ _ rfl (.cons _ _ _ _ _ rfl (.cons _ _ _ _ _ rfl (.cons _ _ _ _ _ rfl (.nil _)))))) ?_
          | refine AW_fieldAddr rfl tf_neg rfl rfl ?_ | refine AW_fieldAddr rfl tf_mag rfl rfl ?_ | refine AW_load rfl ty_bool rfl rfl rfl rfl ?_ | refine AW_load rfl ty_mag rfl rfl rfl rfl ?_ | refine AW_beq rfl Tryz.underlying4 rfl rfl ?_ | refine AW_bne rfl Tryz.underlying4 rfl rfl ?_ | refine AW_len rfl rfl Tryz.underlying22 ?_ | refine AW_ge rfl rfl rfl ?_ | refine AW_gt rfl rfl rfl ?_
          | refine AW_pickT rfl rfl rfl ?_
          | refine AW_pickF rfl rfl rfl ?_
          | refine AW_skip rfl rfl rfl rfl ?_
          | refine AW_pickTg rfl rfl rfl rfl rfl rfl ?_
          | refine AW_pickFg rfl rfl rfl rfl rfl rfl ?_
          | refine AW_moveg rfl rfl rfl rfl rfl ?_
          | refine AW_notg rfl rfl rfl rfl rfl ?_
          | refine AW_eqg rfl rfl rfl rfl rfl rfl ?_
          | refine AW_eq rfl rfl rfl ?_
          | refine AW_loadg rfl rfl rfl rfl ty_num rfl rfl rfl rfl ?_
          | refine AW_callg rfl rfl rfl rfl rfl (by first | exact z0) ?_
          | refine AW_nil (fun (h : false = true) => by cases h) ?_
          | refine AW_nil (fun (_ : true = true) => by kernel_rfl) ?_
          | refine Wp_block ?_
          | refine Wp_skip ?_
          | refine Wp_exit ?_
          | refine Wp_ret ?_
        exact ⟨.inr rfl, _, .tmp _ _ _ _ rfl .nil, rfl⟩
      | true =>
        rw [hx1] at r1 hr
        rw [show rightInt y = false from hr] at r2
        repeat first
          | refine Wp_seq ?_
          | refine Wp_region tm_mixed ?_
          | refine AW_move rfl rfl ?_
          | refine AW_assign rfl rfl ?_
          | refine AW_load rfl ty_num rfl rfl rfl rfl ?_
          | refine AW_store ty_num rfl rfl rfl rfl rfl rfl rfl ?_
          | refine AW_extract rfl rfl rfl ?_
          | refine AW_alloc rfl tz_num ?_
          | refine AW_box rfl rfl (row := true) rfl (fun h => by cases h) rfl ?_
          | refine AW_not rfl rfl ?_
          | refine AW_build rfl tb_num rfl ?_
          | refine AW_call rfl rfl (by first | exact k1 | exact k2 | exact g1 | exact g2 | exact g3 | exact z0 | exact r1 | exact r2) ?_
          | refine AW_ints rfl tu_nums ti_num ti_size ti_zero rfl rfl rfl (by first | exact .cons _ _ _ _ _ rfl (.cons _ _ _ _ _ rfl (.nil _)) | exact .cons _ _ _ _ _ rfl (.cons _ _ _ _ _ rfl (.cons _ _ _ _ _ rfl (.cons _ _ _ _ _ rfl (.nil _)))) | exact .cons _ _ _ _ _ rfl (.cons _ _ _ _ _ rfl (.cons _ _ _ _ _ rfl (.nil _))) | exact .cons _ _ _ _ _ rfl (.cons _ _ _ _ _ rfl (.cons _ _ _ _ _ rfl (.cons _ _ _ _ _ rfl (.cons _ _ _ _ _ rfl (.nil _)))))) ?_
          | refine AW_fieldAddr rfl tf_neg rfl rfl ?_ | refine AW_fieldAddr rfl tf_mag rfl rfl ?_ | refine AW_load rfl ty_bool rfl rfl rfl rfl ?_ | refine AW_load rfl ty_mag rfl rfl rfl rfl ?_ | refine AW_beq rfl Tryz.underlying4 rfl rfl ?_ | refine AW_bne rfl Tryz.underlying4 rfl rfl ?_ | refine AW_len rfl rfl Tryz.underlying22 ?_ | refine AW_ge rfl rfl rfl ?_ | refine AW_gt rfl rfl rfl ?_
          | refine AW_pickT rfl rfl rfl ?_
          | refine AW_pickF rfl rfl rfl ?_
          | refine AW_skip rfl rfl rfl rfl ?_
          | refine AW_pickTg rfl rfl rfl rfl rfl rfl ?_
          | refine AW_pickFg rfl rfl rfl rfl rfl rfl ?_
          | refine AW_moveg rfl rfl rfl rfl rfl ?_
          | refine AW_notg rfl rfl rfl rfl rfl ?_
          | refine AW_eqg rfl rfl rfl rfl rfl rfl ?_
          | refine AW_eq rfl rfl rfl ?_
          | refine AW_loadg rfl rfl rfl rfl ty_num rfl rfl rfl rfl ?_
          | refine AW_callg rfl rfl rfl rfl rfl (by first | exact k1 | exact k2 | exact g1 | exact g2 | exact g3 | exact z0 | exact r1 | exact r2) ?_
          | refine AW_nil (fun (h : false = true) => by cases h) ?_
          | refine AW_nil (fun (_ : true = true) => by kernel_rfl) ?_
          | refine Wp_block ?_
          | refine Wp_skip ?_
          | refine Wp_exit ?_
          | refine Wp_ret ?_
        refine Wp_condT rfl ?_
        repeat first
          | refine Wp_seq ?_
          | refine Wp_region tm_mixed ?_
          | refine AW_move rfl rfl ?_
          | refine AW_assign rfl rfl ?_
          | refine AW_load rfl ty_num rfl rfl rfl rfl ?_
          | refine AW_store ty_num rfl rfl rfl rfl rfl rfl rfl ?_
          | refine AW_extract rfl rfl rfl ?_
          | refine AW_alloc rfl tz_num ?_
          | refine AW_box rfl rfl (row := true) rfl (fun h => by cases h) rfl ?_
          | refine AW_not rfl rfl ?_
          | refine AW_build rfl tb_num rfl ?_
          | refine AW_call rfl rfl (by first | exact z0) ?_
          | refine AW_ints rfl tu_nums ti_num ti_size ti_zero rfl rfl rfl (by first | exact .cons _ _ _ _ _ rfl (.cons _ _ _ _ _ rfl (.nil _)) | exact .cons _ _ _ _ _ rfl (.cons _ _ _ _ _ rfl (.cons _ _ _ _ _ rfl (.cons _ _ _ _ _ rfl (.nil _)))) | exact .cons _ _ _ _ _ rfl (.cons _ _ _ _ _ rfl (.cons _ _ _ _ _ rfl (.nil _))) | exact .cons _ _ _ _ _ rfl (.cons _ _ _ _ _ rfl (.cons _ _ _ _ _ rfl (.cons _ _ _ _ _ rfl (.cons _ _ _ _ _ rfl (.nil _)))))) ?_
          | refine AW_fieldAddr rfl tf_neg rfl rfl ?_ | refine AW_fieldAddr rfl tf_mag rfl rfl ?_ | refine AW_load rfl ty_bool rfl rfl rfl rfl ?_ | refine AW_load rfl ty_mag rfl rfl rfl rfl ?_ | refine AW_beq rfl Tryz.underlying4 rfl rfl ?_ | refine AW_bne rfl Tryz.underlying4 rfl rfl ?_ | refine AW_len rfl rfl Tryz.underlying22 ?_ | refine AW_ge rfl rfl rfl ?_ | refine AW_gt rfl rfl rfl ?_
          | refine AW_pickT rfl rfl rfl ?_
          | refine AW_pickF rfl rfl rfl ?_
          | refine AW_skip rfl rfl rfl rfl ?_
          | refine AW_pickTg rfl rfl rfl rfl rfl rfl ?_
          | refine AW_pickFg rfl rfl rfl rfl rfl rfl ?_
          | refine AW_moveg rfl rfl rfl rfl rfl ?_
          | refine AW_notg rfl rfl rfl rfl rfl ?_
          | refine AW_eqg rfl rfl rfl rfl rfl rfl ?_
          | refine AW_eq rfl rfl rfl ?_
          | refine AW_loadg rfl rfl rfl rfl ty_num rfl rfl rfl rfl ?_
          | refine AW_callg rfl rfl rfl rfl rfl (by first | exact z0) ?_
          | refine AW_nil (fun (h : false = true) => by cases h) ?_
          | refine AW_nil (fun (_ : true = true) => by kernel_rfl) ?_
          | refine Wp_block ?_
          | refine Wp_skip ?_
          | refine Wp_exit ?_
          | refine Wp_ret ?_
        exact ⟨.inr rfl, _, .tmp _ _ _ _ rfl .nil, rfl⟩
    | true =>
      obtain ⟨q1, q2⟩ := Bool.and_eq_true_iff.1 hr
      rw [q1] at r1
      rw [q2] at r2
      obtain ⟨a, rfl, la0⟩ := right_z hx q1
      obtain ⟨b, rfl, lb0⟩ := right_z hy q2
      have la : lc a.natAbs ≤ 90 := by omega
      have lb : lc b.natAbs ≤ 90 := by omega
      have g1 := ct_gOf a b la lb
      have g2 := ct_gBezout a b la lb
      have g3 := ct_gLcm a b la lb
      rw [lcmR_eq] at g3
      have lg : lc (gcdZ a b).natAbs ≤ 90 := by unfold gcdZ; rw [Int.natAbs_natCast]; exact gcd_small la lb
      obtain ⟨lX, lY⟩ := bzY_lc la lb
      have lL := lcmV_lc la lb
      have s1 := ct_SameT (rawOf (gcdZ a b)) (raw_len (by omega))
      have hG := signF (z := gcdZ a b) (by unfold gcdZ; omega)
      have d1 := ct_divides (gcdZ a b) a (by omega) (by omega)
      have d2 := ct_divides (gcdZ a b) b (by omega) (by omega)
      rw [dvdB_true (gcdZ_dvd_left a b)] at d1
      rw [dvdB_true (gcdZ_dvd_right a b)] at d2
      have m1 := ct_Mul0 a (bzX a b) (by omega) (by omega) (by omega)
      have m2 := ct_Mul0 b (bzY a b) (by omega) (by omega) (by omega)
      have lP : lc (a * bzX a b).natAbs ≤ 180 := lc_times la lX
      have lQ : lc (b * bzY a b).natAbs ≤ 271 := lc_times lb lY
      have m3 := ct_Add0 (a * bzX a b) (b * bzY a b) (by omega) (by omega) (by rw [bz_made]; omega)
      rw [bz_made] at m3
      repeat first
        | refine Wp_seq ?_
        | refine Wp_region tm_mixed ?_
        | refine AW_move rfl rfl ?_
        | refine AW_assign rfl rfl ?_
        | refine AW_load rfl ty_num rfl rfl rfl rfl ?_
        | refine AW_store ty_num rfl rfl rfl rfl rfl rfl rfl ?_
        | refine AW_extract rfl rfl rfl ?_
        | refine AW_alloc rfl tz_num ?_
        | refine AW_box rfl rfl (row := true) rfl (fun h => by cases h) rfl ?_
        | refine AW_not rfl rfl ?_
        | refine AW_build rfl tb_num rfl ?_
        | refine AW_call rfl rfl (by first | exact k1 | exact k2 | exact g1 | exact g2 | exact g3 | exact r1 | exact r2) ?_
        | refine AW_ints rfl tu_nums ti_num ti_size ti_zero rfl rfl rfl (by first | exact .cons _ _ _ _ _ rfl (.cons _ _ _ _ _ rfl (.nil _)) | exact .cons _ _ _ _ _ rfl (.cons _ _ _ _ _ rfl (.cons _ _ _ _ _ rfl (.cons _ _ _ _ _ rfl (.nil _)))) | exact .cons _ _ _ _ _ rfl (.cons _ _ _ _ _ rfl (.cons _ _ _ _ _ rfl (.nil _))) | exact .cons _ _ _ _ _ rfl (.cons _ _ _ _ _ rfl (.cons _ _ _ _ _ rfl (.cons _ _ _ _ _ rfl (.cons _ _ _ _ _ rfl (.nil _)))))) ?_
        | refine AW_fieldAddr rfl tf_neg rfl rfl ?_ | refine AW_fieldAddr rfl tf_mag rfl rfl ?_ | refine AW_load rfl ty_bool rfl rfl rfl rfl ?_ | refine AW_load rfl ty_mag rfl rfl rfl rfl ?_ | refine AW_beq rfl Tryz.underlying4 rfl rfl ?_ | refine AW_bne rfl Tryz.underlying4 rfl rfl ?_ | refine AW_len rfl rfl Tryz.underlying22 ?_ | refine AW_ge rfl rfl rfl ?_ | refine AW_gt rfl rfl rfl ?_
        | refine AW_pickT rfl rfl rfl ?_
        | refine AW_pickF rfl rfl rfl ?_
        | refine AW_skip rfl rfl rfl rfl ?_
        | refine AW_pickTg rfl rfl rfl rfl rfl rfl ?_
        | refine AW_pickFg rfl rfl rfl rfl rfl rfl ?_
        | refine AW_moveg rfl rfl rfl rfl rfl ?_
        | refine AW_notg rfl rfl rfl rfl rfl ?_
        | refine AW_eqg rfl rfl rfl rfl rfl rfl ?_
        | refine AW_eq rfl rfl rfl ?_
        | refine AW_loadg rfl rfl rfl rfl ty_num rfl rfl rfl rfl ?_
        | refine AW_callg rfl rfl rfl rfl rfl (by first | exact k1 | exact k2 | exact g1 | exact g2 | exact g3 | exact r1 | exact r2) ?_
        | refine AW_nil (fun (h : false = true) => by cases h) ?_
        | refine AW_nil (fun (_ : true = true) => by kernel_rfl) ?_
        | refine Wp_block ?_
        | refine Wp_skip ?_
        | refine Wp_exit ?_
        | refine Wp_ret ?_
      refine Wp_condF rfl ?_
      repeat first
        | refine Wp_seq ?_
        | refine Wp_region tm_mixed ?_
        | refine AW_move rfl rfl ?_
        | refine AW_assign rfl rfl ?_
        | refine AW_load rfl ty_num rfl rfl rfl rfl ?_
        | refine AW_store ty_num rfl rfl rfl rfl rfl rfl rfl ?_
        | refine AW_extract rfl rfl rfl ?_
        | refine AW_alloc rfl tz_num ?_
        | refine AW_box rfl rfl (row := true) rfl (fun h => by cases h) rfl ?_
        | refine AW_not rfl rfl ?_
        | refine AW_build rfl tb_num rfl ?_
        | refine AW_call rfl rfl (by first | exact s1 | exact d1 | exact d2) ?_
        | refine AW_ints rfl tu_nums ti_num ti_size ti_zero rfl rfl rfl (by first | exact .cons _ _ _ _ _ rfl (.cons _ _ _ _ _ rfl (.nil _)) | exact .cons _ _ _ _ _ rfl (.cons _ _ _ _ _ rfl (.cons _ _ _ _ _ rfl (.cons _ _ _ _ _ rfl (.nil _)))) | exact .cons _ _ _ _ _ rfl (.cons _ _ _ _ _ rfl (.cons _ _ _ _ _ rfl (.nil _))) | exact .cons _ _ _ _ _ rfl (.cons _ _ _ _ _ rfl (.cons _ _ _ _ _ rfl (.cons _ _ _ _ _ rfl (.cons _ _ _ _ _ rfl (.nil _)))))) ?_
        | refine AW_fieldAddr rfl tf_neg rfl rfl ?_ | refine AW_fieldAddr rfl tf_mag rfl rfl ?_ | refine AW_load rfl ty_bool rfl rfl rfl rfl ?_ | refine AW_load rfl ty_mag rfl rfl rfl rfl ?_ | refine AW_beq rfl Tryz.underlying4 rfl rfl ?_ | refine AW_bne rfl Tryz.underlying4 rfl rfl ?_ | refine AW_len rfl rfl Tryz.underlying22 ?_ | refine AW_ge rfl rfl rfl ?_ | refine AW_gt rfl rfl rfl ?_ | refine AW_loadg rfl rfl rfl rfl ty_bool rfl rfl rfl hG ?_ | refine AW_fieldAddrg rfl rfl rfl rfl tf_neg rfl rfl ?_ | refine AW_neg rfl rfl rfl rfl rfl rfl ?_ | refine AW_ne rfl rfl rfl ?_ | refine AW_store1 ty_bool rfl rfl rfl rfl rfl ?_
        | refine AW_pickT rfl rfl rfl ?_
        | refine AW_pickF rfl rfl rfl ?_
        | refine AW_skip rfl rfl rfl rfl ?_
        | refine AW_pickTg rfl rfl rfl rfl rfl rfl ?_
        | refine AW_pickFg rfl rfl rfl rfl rfl rfl ?_
        | refine AW_moveg rfl rfl rfl rfl rfl ?_
        | refine AW_notg rfl rfl rfl rfl rfl ?_
        | refine AW_eqg rfl rfl rfl rfl rfl rfl ?_
        | refine AW_eq rfl rfl rfl ?_
        | refine AW_loadg rfl rfl rfl rfl ty_num rfl rfl rfl rfl ?_
        | refine AW_callg rfl rfl rfl rfl rfl (by first | exact s1 | exact d1 | exact d2) ?_
        | refine AW_nil (fun (h : false = true) => by cases h) ?_
        | refine AW_nil (fun (_ : true = true) => by kernel_rfl) ?_
        | refine Wp_block ?_
        | refine Wp_skip ?_
        | refine Wp_exit ?_
        | refine Wp_ret ?_
      refine Wp_condF rfl ?_
      repeat first
        | refine Wp_seq ?_
        | refine Wp_region tm_mixed ?_
        | refine AW_move rfl rfl ?_
        | refine AW_assign rfl rfl ?_
        | refine AW_load rfl ty_num rfl rfl rfl rfl ?_
        | refine AW_store ty_num rfl rfl rfl rfl rfl rfl rfl ?_
        | refine AW_extract rfl rfl rfl ?_
        | refine AW_alloc rfl tz_num ?_
        | refine AW_box rfl rfl (row := true) rfl (fun h => by cases h) rfl ?_
        | refine AW_not rfl rfl ?_
        | refine AW_build rfl tb_num rfl ?_
        | refine AW_call rfl rfl (by first | exact m1 | exact m2 | exact m3) ?_
        | refine AW_ints rfl tu_nums ti_num ti_size ti_zero rfl rfl rfl (by first | exact .cons _ _ _ _ _ rfl (.cons _ _ _ _ _ rfl (.nil _)) | exact .cons _ _ _ _ _ rfl (.cons _ _ _ _ _ rfl (.cons _ _ _ _ _ rfl (.cons _ _ _ _ _ rfl (.nil _)))) | exact .cons _ _ _ _ _ rfl (.cons _ _ _ _ _ rfl (.cons _ _ _ _ _ rfl (.nil _))) | exact .cons _ _ _ _ _ rfl (.cons _ _ _ _ _ rfl (.cons _ _ _ _ _ rfl (.cons _ _ _ _ _ rfl (.cons _ _ _ _ _ rfl (.nil _)))))) ?_
        | refine AW_fieldAddr rfl tf_neg rfl rfl ?_ | refine AW_fieldAddr rfl tf_mag rfl rfl ?_ | refine AW_load rfl ty_bool rfl rfl rfl rfl ?_ | refine AW_load rfl ty_mag rfl rfl rfl rfl ?_ | refine AW_beq rfl Tryz.underlying4 rfl rfl ?_ | refine AW_bne rfl Tryz.underlying4 rfl rfl ?_ | refine AW_len rfl rfl Tryz.underlying22 ?_ | refine AW_ge rfl rfl rfl ?_ | refine AW_gt rfl rfl rfl ?_ | refine AW_loadg rfl rfl rfl rfl ty_bool rfl rfl rfl hG ?_ | refine AW_fieldAddrg rfl rfl rfl rfl tf_neg rfl rfl ?_ | refine AW_neg rfl rfl rfl rfl rfl rfl ?_ | refine AW_ne rfl rfl rfl ?_ | refine AW_store1 ty_bool rfl rfl rfl rfl rfl ?_
        | refine AW_pickT rfl rfl rfl ?_
        | refine AW_pickF rfl rfl rfl ?_
        | refine AW_skip rfl rfl rfl rfl ?_
        | refine AW_pickTg rfl rfl rfl rfl rfl rfl ?_
        | refine AW_pickFg rfl rfl rfl rfl rfl rfl ?_
        | refine AW_moveg rfl rfl rfl rfl rfl ?_
        | refine AW_notg rfl rfl rfl rfl rfl ?_
        | refine AW_eqg rfl rfl rfl rfl rfl rfl ?_
        | refine AW_eq rfl rfl rfl ?_
        | refine AW_loadg rfl rfl rfl rfl ty_num rfl rfl rfl rfl ?_
        | refine AW_callg rfl rfl rfl rfl rfl (by first | exact m1 | exact m2 | exact m3) ?_
        | refine AW_nil (fun (h : false = true) => by cases h) ?_
        | refine AW_nil (fun (_ : true = true) => by kernel_rfl) ?_
        | refine Wp_block ?_
        | refine Wp_skip ?_
        | refine Wp_exit ?_
        | refine Wp_ret ?_
      by_cases h0 : b = 0
      · have eX : bzX a b = Int.sign a := by unfold bzX; rw [if_pos h0]
        have eY : bzY a b = 0 := by unfold bzY; rw [if_pos h0]
        have eL : lcmV a b = 0 := by unfold lcmV; rw [if_pos (.inr h0)]
        have z1 := ct_lzT b h0
        have z2 := ct_lzT (bzY a b) eY
        have z3 := ct_lzT (lcmV a b) eL
        have oo := ct_law20of 1 (by decide) (by decide)
        by_cases ha : a = 0
        · have z4 := ct_lzT a ha
          have z5 := ct_lzT (bzX a b) (by rw [eX, ha]; rfl)
          have hX := signF (z := bzX a b) (by rw [eX, ha]; decide)
          repeat first
            | refine Wp_seq ?_
            | refine Wp_region tm_mixed ?_
            | refine AW_move rfl rfl ?_
            | refine AW_assign rfl rfl ?_
            | refine AW_load rfl ty_num rfl rfl rfl rfl ?_
            | refine AW_store ty_num rfl rfl rfl rfl rfl rfl rfl ?_
            | refine AW_extract rfl rfl rfl ?_
            | refine AW_alloc rfl tz_num ?_
            | refine AW_box rfl rfl (row := true) rfl (fun h => by cases h) rfl ?_
            | refine AW_not rfl rfl ?_
            | refine AW_build rfl tb_num rfl ?_
            | refine AW_call rfl rfl (by first | exact s1 | exact z1) ?_
            | refine AW_ints rfl tu_nums ti_num ti_size ti_zero rfl rfl rfl (by first | exact .cons _ _ _ _ _ rfl (.cons _ _ _ _ _ rfl (.nil _)) | exact .cons _ _ _ _ _ rfl (.cons _ _ _ _ _ rfl (.cons _ _ _ _ _ rfl (.cons _ _ _ _ _ rfl (.nil _)))) | exact .cons _ _ _ _ _ rfl (.cons _ _ _ _ _ rfl (.cons _ _ _ _ _ rfl (.nil _))) | exact .cons _ _ _ _ _ rfl (.cons _ _ _ _ _ rfl (.cons _ _ _ _ _ rfl (.cons _ _ _ _ _ rfl (.cons _ _ _ _ _ rfl (.nil _)))))) ?_
            | refine AW_fieldAddr rfl tf_neg rfl rfl ?_ | refine AW_fieldAddr rfl tf_mag rfl rfl ?_ | refine AW_load rfl ty_bool rfl rfl rfl rfl ?_ | refine AW_load rfl ty_mag rfl rfl rfl rfl ?_ | refine AW_beq rfl Tryz.underlying4 rfl rfl ?_ | refine AW_bne rfl Tryz.underlying4 rfl rfl ?_ | refine AW_len rfl rfl Tryz.underlying22 ?_ | refine AW_ge rfl rfl rfl ?_ | refine AW_gt rfl rfl rfl ?_ | refine AW_loadg rfl rfl rfl rfl ty_bool rfl rfl rfl hG ?_ | refine AW_fieldAddrg rfl rfl rfl rfl tf_neg rfl rfl ?_ | refine AW_neg rfl rfl rfl rfl rfl rfl ?_ | refine AW_ne rfl rfl rfl ?_ | refine AW_store1 ty_bool rfl rfl rfl rfl rfl ?_ | refine AW_loadg rfl rfl rfl rfl ty_bool rfl rfl rfl hX ?_
            | refine AW_pickT rfl rfl rfl ?_
            | refine AW_pickF rfl rfl rfl ?_
            | refine AW_skip rfl rfl rfl rfl ?_
            | refine AW_pickTg rfl rfl rfl rfl rfl rfl ?_
            | refine AW_pickFg rfl rfl rfl rfl rfl rfl ?_
            | refine AW_moveg rfl rfl rfl rfl rfl ?_
            | refine AW_notg rfl rfl rfl rfl rfl ?_
            | refine AW_eqg rfl rfl rfl rfl rfl rfl ?_
            | refine AW_eq rfl rfl rfl ?_
            | refine AW_loadg rfl rfl rfl rfl ty_num rfl rfl rfl rfl ?_
            | refine AW_callg rfl rfl rfl rfl rfl (by first | exact s1 | exact z1) ?_
            | refine AW_nil (fun (h : false = true) => by cases h) ?_
            | refine AW_nil (fun (_ : true = true) => by kernel_rfl) ?_
            | refine Wp_block ?_
            | refine Wp_skip ?_
            | refine Wp_exit ?_
            | refine Wp_ret ?_
          refine Wp_condF rfl ?_
          repeat first
            | refine Wp_seq ?_
            | refine Wp_region tm_mixed ?_
            | refine AW_move rfl rfl ?_
            | refine AW_assign rfl rfl ?_
            | refine AW_load rfl ty_num rfl rfl rfl rfl ?_
            | refine AW_store ty_num rfl rfl rfl rfl rfl rfl rfl ?_
            | refine AW_extract rfl rfl rfl ?_
            | refine AW_alloc rfl tz_num ?_
            | refine AW_box rfl rfl (row := true) rfl (fun h => by cases h) rfl ?_
            | refine AW_not rfl rfl ?_
            | refine AW_build rfl tb_num rfl ?_
            | refine AW_call rfl rfl (by first | exact z1) ?_
            | refine AW_ints rfl tu_nums ti_num ti_size ti_zero rfl rfl rfl (by first | exact .cons _ _ _ _ _ rfl (.cons _ _ _ _ _ rfl (.nil _)) | exact .cons _ _ _ _ _ rfl (.cons _ _ _ _ _ rfl (.cons _ _ _ _ _ rfl (.cons _ _ _ _ _ rfl (.nil _)))) | exact .cons _ _ _ _ _ rfl (.cons _ _ _ _ _ rfl (.cons _ _ _ _ _ rfl (.nil _))) | exact .cons _ _ _ _ _ rfl (.cons _ _ _ _ _ rfl (.cons _ _ _ _ _ rfl (.cons _ _ _ _ _ rfl (.cons _ _ _ _ _ rfl (.nil _)))))) ?_
            | refine AW_fieldAddr rfl tf_neg rfl rfl ?_ | refine AW_fieldAddr rfl tf_mag rfl rfl ?_ | refine AW_load rfl ty_bool rfl rfl rfl rfl ?_ | refine AW_load rfl ty_mag rfl rfl rfl rfl ?_ | refine AW_beq rfl Tryz.underlying4 rfl rfl ?_ | refine AW_bne rfl Tryz.underlying4 rfl rfl ?_ | refine AW_len rfl rfl Tryz.underlying22 ?_ | refine AW_ge rfl rfl rfl ?_ | refine AW_gt rfl rfl rfl ?_ | refine AW_loadg rfl rfl rfl rfl ty_bool rfl rfl rfl hG ?_ | refine AW_fieldAddrg rfl rfl rfl rfl tf_neg rfl rfl ?_ | refine AW_neg rfl rfl rfl rfl rfl rfl ?_ | refine AW_ne rfl rfl rfl ?_ | refine AW_store1 ty_bool rfl rfl rfl rfl rfl ?_
            | refine AW_pickT rfl rfl rfl ?_
            | refine AW_pickF rfl rfl rfl ?_
            | refine AW_skip rfl rfl rfl rfl ?_
            | refine AW_pickTg rfl rfl rfl rfl rfl rfl ?_
            | refine AW_pickFg rfl rfl rfl rfl rfl rfl ?_
            | refine AW_moveg rfl rfl rfl rfl rfl ?_
            | refine AW_notg rfl rfl rfl rfl rfl ?_
            | refine AW_eqg rfl rfl rfl rfl rfl rfl ?_
            | refine AW_eq rfl rfl rfl ?_
            | refine AW_loadg rfl rfl rfl rfl ty_num rfl rfl rfl rfl ?_
            | refine AW_callg rfl rfl rfl rfl rfl (by first | exact z1) ?_
            | refine AW_nil (fun (h : false = true) => by cases h) ?_
            | refine AW_nil (fun (_ : true = true) => by kernel_rfl) ?_
            | refine Wp_block ?_
            | refine Wp_skip ?_
            | refine Wp_exit ?_
            | refine Wp_ret ?_
          refine Wp_condT rfl ?_
          repeat first
            | refine Wp_seq ?_
            | refine Wp_region tm_mixed ?_
            | refine AW_move rfl rfl ?_
            | refine AW_assign rfl rfl ?_
            | refine AW_load rfl ty_num rfl rfl rfl rfl ?_
            | refine AW_store ty_num rfl rfl rfl rfl rfl rfl rfl ?_
            | refine AW_extract rfl rfl rfl ?_
            | refine AW_alloc rfl tz_num ?_
            | refine AW_box rfl rfl (row := true) rfl (fun h => by cases h) rfl ?_
            | refine AW_not rfl rfl ?_
            | refine AW_build rfl tb_num rfl ?_
            | refine AW_call rfl rfl (by first | exact z2 | exact z3 | exact z4 | exact z5 | exact oo) ?_
            | refine AW_ints rfl tu_nums ti_num ti_size ti_zero rfl rfl rfl (by first | exact .cons _ _ _ _ _ rfl (.cons _ _ _ _ _ rfl (.nil _)) | exact .cons _ _ _ _ _ rfl (.cons _ _ _ _ _ rfl (.cons _ _ _ _ _ rfl (.cons _ _ _ _ _ rfl (.nil _)))) | exact .cons _ _ _ _ _ rfl (.cons _ _ _ _ _ rfl (.cons _ _ _ _ _ rfl (.nil _))) | exact .cons _ _ _ _ _ rfl (.cons _ _ _ _ _ rfl (.cons _ _ _ _ _ rfl (.cons _ _ _ _ _ rfl (.cons _ _ _ _ _ rfl (.nil _)))))) ?_
            | refine AW_fieldAddr rfl tf_neg rfl rfl ?_ | refine AW_fieldAddr rfl tf_mag rfl rfl ?_ | refine AW_load rfl ty_bool rfl rfl rfl rfl ?_ | refine AW_load rfl ty_mag rfl rfl rfl rfl ?_ | refine AW_beq rfl Tryz.underlying4 rfl rfl ?_ | refine AW_bne rfl Tryz.underlying4 rfl rfl ?_ | refine AW_len rfl rfl Tryz.underlying22 ?_ | refine AW_ge rfl rfl rfl ?_ | refine AW_gt rfl rfl rfl ?_ | refine AW_loadg rfl rfl rfl rfl ty_bool rfl rfl rfl hG ?_ | refine AW_fieldAddrg rfl rfl rfl rfl tf_neg rfl rfl ?_ | refine AW_neg rfl rfl rfl rfl rfl rfl ?_ | refine AW_ne rfl rfl rfl ?_ | refine AW_store1 ty_bool rfl rfl rfl rfl rfl ?_
            | refine AW_pickT rfl rfl rfl ?_
            | refine AW_pickF rfl rfl rfl ?_
            | refine AW_skip rfl rfl rfl rfl ?_
            | refine AW_pickTg rfl rfl rfl rfl rfl rfl ?_
            | refine AW_pickFg rfl rfl rfl rfl rfl rfl ?_
            | refine AW_moveg rfl rfl rfl rfl rfl ?_
            | refine AW_notg rfl rfl rfl rfl rfl ?_
            | refine AW_eqg rfl rfl rfl rfl rfl rfl ?_
            | refine AW_eq rfl rfl rfl ?_
            | refine AW_loadg rfl rfl rfl rfl ty_num rfl rfl rfl rfl ?_
            | refine AW_callg rfl rfl rfl rfl rfl (by first | exact z2 | exact z3 | exact z4 | exact z5 | exact oo) ?_
            | refine AW_nil (fun (h : false = true) => by cases h) ?_
            | refine AW_nil (fun (_ : true = true) => by kernel_rfl) ?_
            | refine Wp_block ?_
            | refine Wp_skip ?_
            | refine Wp_exit ?_
            | refine Wp_ret ?_
          exact ⟨.inr rfl, _, .tmp _ _ _ _ rfl .nil, rfl⟩
        · have z4 := ct_lzF a ha
          have hs : (bzX a b).natAbs = 1 := by
            rw [eX]
            rcases Int.lt_trichotomy a 0 with h | h | h
            · rw [Int.sign_eq_neg_one_of_neg h]; rfl
            · exact absurd h ha
            · rw [Int.sign_eq_one_of_pos h]; rfl
          have s2 := ct_SameT (rawOf ((bzX a b).natAbs : Int)) (raw_len (by rw [Int.natAbs_natCast]; omega))
          rw [hs, show rawOf ((1 : Nat) : Int) = rawOf 1 from rfl] at s2
          have s3 : Ct Tryz.prog 22 [aNum (false, (rawOf (bzX a b)).2), aZ 1] (.val (aB true)) := by
            have e : ((false, (rawOf (bzX a b)).2) : Raw) = rawOf 1 := by rw [raw_abs, hs]; rfl
            rw [e]; exact s2
          by_cases hn : bzX a b < 0
          · have hX := signT hn
            repeat first
              | refine Wp_seq ?_
              | refine Wp_region tm_mixed ?_
              | refine AW_move rfl rfl ?_
              | refine AW_assign rfl rfl ?_
              | refine AW_load rfl ty_num rfl rfl rfl rfl ?_
              | refine AW_store ty_num rfl rfl rfl rfl rfl rfl rfl ?_
              | refine AW_extract rfl rfl rfl ?_
              | refine AW_alloc rfl tz_num ?_
              | refine AW_box rfl rfl (row := true) rfl (fun h => by cases h) rfl ?_
              | refine AW_not rfl rfl ?_
              | refine AW_build rfl tb_num rfl ?_
              | refine AW_call rfl rfl (by first | exact s1 | exact z1) ?_
              | refine AW_ints rfl tu_nums ti_num ti_size ti_zero rfl rfl rfl (by first | exact .cons _ _ _ _ _ rfl (.cons _ _ _ _ _ rfl (.nil _)) | exact .cons _ _ _ _ _ rfl (.cons _ _ _ _ _ rfl (.cons _ _ _ _ _ rfl (.cons _ _ _ _ _ rfl (.nil _)))) | exact .cons _ _ _ _ _ rfl (.cons _ _ _ _ _ rfl (.cons _ _ _ _ _ rfl (.nil _))) | exact .cons _ _ _ _ _ rfl (.cons _ _ _ _ _ rfl (.cons _ _ _ _ _ rfl (.cons _ _ _ _ _ rfl (.cons _ _ _ _ _ rfl (.nil _)))))) ?_
              | refine AW_fieldAddr rfl tf_neg rfl rfl ?_ | refine AW_fieldAddr rfl tf_mag rfl rfl ?_ | refine AW_load rfl ty_bool rfl rfl rfl rfl ?_ | refine AW_load rfl ty_mag rfl rfl rfl rfl ?_ | refine AW_beq rfl Tryz.underlying4 rfl rfl ?_ | refine AW_bne rfl Tryz.underlying4 rfl rfl ?_ | refine AW_len rfl rfl Tryz.underlying22 ?_ | refine AW_ge rfl rfl rfl ?_ | refine AW_gt rfl rfl rfl ?_ | refine AW_loadg rfl rfl rfl rfl ty_bool rfl rfl rfl hG ?_ | refine AW_fieldAddrg rfl rfl rfl rfl tf_neg rfl rfl ?_ | refine AW_neg rfl rfl rfl rfl rfl rfl ?_ | refine AW_ne rfl rfl rfl ?_ | refine AW_store1 ty_bool rfl rfl rfl rfl rfl ?_ | refine AW_loadg rfl rfl rfl rfl ty_bool rfl rfl rfl hX ?_
              | refine AW_pickT rfl rfl rfl ?_
              | refine AW_pickF rfl rfl rfl ?_
              | refine AW_skip rfl rfl rfl rfl ?_
              | refine AW_pickTg rfl rfl rfl rfl rfl rfl ?_
              | refine AW_pickFg rfl rfl rfl rfl rfl rfl ?_
              | refine AW_moveg rfl rfl rfl rfl rfl ?_
              | refine AW_notg rfl rfl rfl rfl rfl ?_
              | refine AW_eqg rfl rfl rfl rfl rfl rfl ?_
              | refine AW_eq rfl rfl rfl ?_
              | refine AW_loadg rfl rfl rfl rfl ty_num rfl rfl rfl rfl ?_
              | refine AW_callg rfl rfl rfl rfl rfl (by first | exact s1 | exact z1) ?_
              | refine AW_nil (fun (h : false = true) => by cases h) ?_
              | refine AW_nil (fun (_ : true = true) => by kernel_rfl) ?_
              | refine Wp_block ?_
              | refine Wp_skip ?_
              | refine Wp_exit ?_
              | refine Wp_ret ?_
            refine Wp_condF rfl ?_
            repeat first
              | refine Wp_seq ?_
              | refine Wp_region tm_mixed ?_
              | refine AW_move rfl rfl ?_
              | refine AW_assign rfl rfl ?_
              | refine AW_load rfl ty_num rfl rfl rfl rfl ?_
              | refine AW_store ty_num rfl rfl rfl rfl rfl rfl rfl ?_
              | refine AW_extract rfl rfl rfl ?_
              | refine AW_alloc rfl tz_num ?_
              | refine AW_box rfl rfl (row := true) rfl (fun h => by cases h) rfl ?_
              | refine AW_not rfl rfl ?_
              | refine AW_build rfl tb_num rfl ?_
              | refine AW_call rfl rfl (by first | exact z1) ?_
              | refine AW_ints rfl tu_nums ti_num ti_size ti_zero rfl rfl rfl (by first | exact .cons _ _ _ _ _ rfl (.cons _ _ _ _ _ rfl (.nil _)) | exact .cons _ _ _ _ _ rfl (.cons _ _ _ _ _ rfl (.cons _ _ _ _ _ rfl (.cons _ _ _ _ _ rfl (.nil _)))) | exact .cons _ _ _ _ _ rfl (.cons _ _ _ _ _ rfl (.cons _ _ _ _ _ rfl (.nil _))) | exact .cons _ _ _ _ _ rfl (.cons _ _ _ _ _ rfl (.cons _ _ _ _ _ rfl (.cons _ _ _ _ _ rfl (.cons _ _ _ _ _ rfl (.nil _)))))) ?_
              | refine AW_fieldAddr rfl tf_neg rfl rfl ?_ | refine AW_fieldAddr rfl tf_mag rfl rfl ?_ | refine AW_load rfl ty_bool rfl rfl rfl rfl ?_ | refine AW_load rfl ty_mag rfl rfl rfl rfl ?_ | refine AW_beq rfl Tryz.underlying4 rfl rfl ?_ | refine AW_bne rfl Tryz.underlying4 rfl rfl ?_ | refine AW_len rfl rfl Tryz.underlying22 ?_ | refine AW_ge rfl rfl rfl ?_ | refine AW_gt rfl rfl rfl ?_ | refine AW_loadg rfl rfl rfl rfl ty_bool rfl rfl rfl hG ?_ | refine AW_fieldAddrg rfl rfl rfl rfl tf_neg rfl rfl ?_ | refine AW_neg rfl rfl rfl rfl rfl rfl ?_ | refine AW_ne rfl rfl rfl ?_ | refine AW_store1 ty_bool rfl rfl rfl rfl rfl ?_
              | refine AW_pickT rfl rfl rfl ?_
              | refine AW_pickF rfl rfl rfl ?_
              | refine AW_skip rfl rfl rfl rfl ?_
              | refine AW_pickTg rfl rfl rfl rfl rfl rfl ?_
              | refine AW_pickFg rfl rfl rfl rfl rfl rfl ?_
              | refine AW_moveg rfl rfl rfl rfl rfl ?_
              | refine AW_notg rfl rfl rfl rfl rfl ?_
              | refine AW_eqg rfl rfl rfl rfl rfl rfl ?_
              | refine AW_eq rfl rfl rfl ?_
              | refine AW_loadg rfl rfl rfl rfl ty_num rfl rfl rfl rfl ?_
              | refine AW_callg rfl rfl rfl rfl rfl (by first | exact z1) ?_
              | refine AW_nil (fun (h : false = true) => by cases h) ?_
              | refine AW_nil (fun (_ : true = true) => by kernel_rfl) ?_
              | refine Wp_block ?_
              | refine Wp_skip ?_
              | refine Wp_exit ?_
              | refine Wp_ret ?_
            refine Wp_condT rfl ?_
            repeat first
              | refine Wp_seq ?_
              | refine Wp_region tm_mixed ?_
              | refine AW_move rfl rfl ?_
              | refine AW_assign rfl rfl ?_
              | refine AW_load rfl ty_num rfl rfl rfl rfl ?_
              | refine AW_store ty_num rfl rfl rfl rfl rfl rfl rfl ?_
              | refine AW_extract rfl rfl rfl ?_
              | refine AW_alloc rfl tz_num ?_
              | refine AW_box rfl rfl (row := true) rfl (fun h => by cases h) rfl ?_
              | refine AW_not rfl rfl ?_
              | refine AW_build rfl tb_num rfl ?_
              | refine AW_call rfl rfl (by first | exact z2 | exact z3 | exact z4 | exact oo | exact s3) ?_
              | refine AW_ints rfl tu_nums ti_num ti_size ti_zero rfl rfl rfl (by first | exact .cons _ _ _ _ _ rfl (.cons _ _ _ _ _ rfl (.nil _)) | exact .cons _ _ _ _ _ rfl (.cons _ _ _ _ _ rfl (.cons _ _ _ _ _ rfl (.cons _ _ _ _ _ rfl (.nil _)))) | exact .cons _ _ _ _ _ rfl (.cons _ _ _ _ _ rfl (.cons _ _ _ _ _ rfl (.nil _))) | exact .cons _ _ _ _ _ rfl (.cons _ _ _ _ _ rfl (.cons _ _ _ _ _ rfl (.cons _ _ _ _ _ rfl (.cons _ _ _ _ _ rfl (.nil _)))))) ?_
              | refine AW_fieldAddr rfl tf_neg rfl rfl ?_ | refine AW_fieldAddr rfl tf_mag rfl rfl ?_ | refine AW_load rfl ty_bool rfl rfl rfl rfl ?_ | refine AW_load rfl ty_mag rfl rfl rfl rfl ?_ | refine AW_beq rfl Tryz.underlying4 rfl rfl ?_ | refine AW_bne rfl Tryz.underlying4 rfl rfl ?_ | refine AW_len rfl rfl Tryz.underlying22 ?_ | refine AW_ge rfl rfl rfl ?_ | refine AW_gt rfl rfl rfl ?_ | refine AW_loadg rfl rfl rfl rfl ty_bool rfl rfl rfl hG ?_ | refine AW_fieldAddrg rfl rfl rfl rfl tf_neg rfl rfl ?_ | refine AW_neg rfl rfl rfl rfl rfl rfl ?_ | refine AW_ne rfl rfl rfl ?_ | refine AW_store1 ty_bool rfl rfl rfl rfl rfl ?_
              | refine AW_pickT rfl rfl rfl ?_
              | refine AW_pickF rfl rfl rfl ?_
              | refine AW_skip rfl rfl rfl rfl ?_
              | refine AW_pickTg rfl rfl rfl rfl rfl rfl ?_
              | refine AW_pickFg rfl rfl rfl rfl rfl rfl ?_
              | refine AW_moveg rfl rfl rfl rfl rfl ?_
              | refine AW_notg rfl rfl rfl rfl rfl ?_
              | refine AW_eqg rfl rfl rfl rfl rfl rfl ?_
              | refine AW_eq rfl rfl rfl ?_
              | refine AW_loadg rfl rfl rfl rfl ty_num rfl rfl rfl rfl ?_
              | refine AW_callg rfl rfl rfl rfl rfl (by first | exact z2 | exact z3 | exact z4 | exact oo | exact s3) ?_
              | refine AW_nil (fun (h : false = true) => by cases h) ?_
              | refine AW_nil (fun (_ : true = true) => by kernel_rfl) ?_
              | refine Wp_block ?_
              | refine Wp_skip ?_
              | refine Wp_exit ?_
              | refine Wp_ret ?_
            exact ⟨.inr rfl, _, .tmp _ _ _ _ rfl .nil, rfl⟩
          · have hX := signF (z := bzX a b) (by omega)
            repeat first
              | refine Wp_seq ?_
              | refine Wp_region tm_mixed ?_
              | refine AW_move rfl rfl ?_
              | refine AW_assign rfl rfl ?_
              | refine AW_load rfl ty_num rfl rfl rfl rfl ?_
              | refine AW_store ty_num rfl rfl rfl rfl rfl rfl rfl ?_
              | refine AW_extract rfl rfl rfl ?_
              | refine AW_alloc rfl tz_num ?_
              | refine AW_box rfl rfl (row := true) rfl (fun h => by cases h) rfl ?_
              | refine AW_not rfl rfl ?_
              | refine AW_build rfl tb_num rfl ?_
              | refine AW_call rfl rfl (by first | exact s1 | exact z1) ?_
              | refine AW_ints rfl tu_nums ti_num ti_size ti_zero rfl rfl rfl (by first | exact .cons _ _ _ _ _ rfl (.cons _ _ _ _ _ rfl (.nil _)) | exact .cons _ _ _ _ _ rfl (.cons _ _ _ _ _ rfl (.cons _ _ _ _ _ rfl (.cons _ _ _ _ _ rfl (.nil _)))) | exact .cons _ _ _ _ _ rfl (.cons _ _ _ _ _ rfl (.cons _ _ _ _ _ rfl (.nil _))) | exact .cons _ _ _ _ _ rfl (.cons _ _ _ _ _ rfl (.cons _ _ _ _ _ rfl (.cons _ _ _ _ _ rfl (.cons _ _ _ _ _ rfl (.nil _)))))) ?_
              | refine AW_fieldAddr rfl tf_neg rfl rfl ?_ | refine AW_fieldAddr rfl tf_mag rfl rfl ?_ | refine AW_load rfl ty_bool rfl rfl rfl rfl ?_ | refine AW_load rfl ty_mag rfl rfl rfl rfl ?_ | refine AW_beq rfl Tryz.underlying4 rfl rfl ?_ | refine AW_bne rfl Tryz.underlying4 rfl rfl ?_ | refine AW_len rfl rfl Tryz.underlying22 ?_ | refine AW_ge rfl rfl rfl ?_ | refine AW_gt rfl rfl rfl ?_ | refine AW_loadg rfl rfl rfl rfl ty_bool rfl rfl rfl hG ?_ | refine AW_fieldAddrg rfl rfl rfl rfl tf_neg rfl rfl ?_ | refine AW_neg rfl rfl rfl rfl rfl rfl ?_ | refine AW_ne rfl rfl rfl ?_ | refine AW_store1 ty_bool rfl rfl rfl rfl rfl ?_ | refine AW_loadg rfl rfl rfl rfl ty_bool rfl rfl rfl hX ?_
              | refine AW_pickT rfl rfl rfl ?_
              | refine AW_pickF rfl rfl rfl ?_
              | refine AW_skip rfl rfl rfl rfl ?_
              | refine AW_pickTg rfl rfl rfl rfl rfl rfl ?_
              | refine AW_pickFg rfl rfl rfl rfl rfl rfl ?_
              | refine AW_moveg rfl rfl rfl rfl rfl ?_
              | refine AW_notg rfl rfl rfl rfl rfl ?_
              | refine AW_eqg rfl rfl rfl rfl rfl rfl ?_
              | refine AW_eq rfl rfl rfl ?_
              | refine AW_loadg rfl rfl rfl rfl ty_num rfl rfl rfl rfl ?_
              | refine AW_callg rfl rfl rfl rfl rfl (by first | exact s1 | exact z1) ?_
              | refine AW_nil (fun (h : false = true) => by cases h) ?_
              | refine AW_nil (fun (_ : true = true) => by kernel_rfl) ?_
              | refine Wp_block ?_
              | refine Wp_skip ?_
              | refine Wp_exit ?_
              | refine Wp_ret ?_
            refine Wp_condF rfl ?_
            repeat first
              | refine Wp_seq ?_
              | refine Wp_region tm_mixed ?_
              | refine AW_move rfl rfl ?_
              | refine AW_assign rfl rfl ?_
              | refine AW_load rfl ty_num rfl rfl rfl rfl ?_
              | refine AW_store ty_num rfl rfl rfl rfl rfl rfl rfl ?_
              | refine AW_extract rfl rfl rfl ?_
              | refine AW_alloc rfl tz_num ?_
              | refine AW_box rfl rfl (row := true) rfl (fun h => by cases h) rfl ?_
              | refine AW_not rfl rfl ?_
              | refine AW_build rfl tb_num rfl ?_
              | refine AW_call rfl rfl (by first | exact z1) ?_
              | refine AW_ints rfl tu_nums ti_num ti_size ti_zero rfl rfl rfl (by first | exact .cons _ _ _ _ _ rfl (.cons _ _ _ _ _ rfl (.nil _)) | exact .cons _ _ _ _ _ rfl (.cons _ _ _ _ _ rfl (.cons _ _ _ _ _ rfl (.cons _ _ _ _ _ rfl (.nil _)))) | exact .cons _ _ _ _ _ rfl (.cons _ _ _ _ _ rfl (.cons _ _ _ _ _ rfl (.nil _))) | exact .cons _ _ _ _ _ rfl (.cons _ _ _ _ _ rfl (.cons _ _ _ _ _ rfl (.cons _ _ _ _ _ rfl (.cons _ _ _ _ _ rfl (.nil _)))))) ?_
              | refine AW_fieldAddr rfl tf_neg rfl rfl ?_ | refine AW_fieldAddr rfl tf_mag rfl rfl ?_ | refine AW_load rfl ty_bool rfl rfl rfl rfl ?_ | refine AW_load rfl ty_mag rfl rfl rfl rfl ?_ | refine AW_beq rfl Tryz.underlying4 rfl rfl ?_ | refine AW_bne rfl Tryz.underlying4 rfl rfl ?_ | refine AW_len rfl rfl Tryz.underlying22 ?_ | refine AW_ge rfl rfl rfl ?_ | refine AW_gt rfl rfl rfl ?_ | refine AW_loadg rfl rfl rfl rfl ty_bool rfl rfl rfl hG ?_ | refine AW_fieldAddrg rfl rfl rfl rfl tf_neg rfl rfl ?_ | refine AW_neg rfl rfl rfl rfl rfl rfl ?_ | refine AW_ne rfl rfl rfl ?_ | refine AW_store1 ty_bool rfl rfl rfl rfl rfl ?_
              | refine AW_pickT rfl rfl rfl ?_
              | refine AW_pickF rfl rfl rfl ?_
              | refine AW_skip rfl rfl rfl rfl ?_
              | refine AW_pickTg rfl rfl rfl rfl rfl rfl ?_
              | refine AW_pickFg rfl rfl rfl rfl rfl rfl ?_
              | refine AW_moveg rfl rfl rfl rfl rfl ?_
              | refine AW_notg rfl rfl rfl rfl rfl ?_
              | refine AW_eqg rfl rfl rfl rfl rfl rfl ?_
              | refine AW_eq rfl rfl rfl ?_
              | refine AW_loadg rfl rfl rfl rfl ty_num rfl rfl rfl rfl ?_
              | refine AW_callg rfl rfl rfl rfl rfl (by first | exact z1) ?_
              | refine AW_nil (fun (h : false = true) => by cases h) ?_
              | refine AW_nil (fun (_ : true = true) => by kernel_rfl) ?_
              | refine Wp_block ?_
              | refine Wp_skip ?_
              | refine Wp_exit ?_
              | refine Wp_ret ?_
            refine Wp_condT rfl ?_
            repeat first
              | refine Wp_seq ?_
              | refine Wp_region tm_mixed ?_
              | refine AW_move rfl rfl ?_
              | refine AW_assign rfl rfl ?_
              | refine AW_load rfl ty_num rfl rfl rfl rfl ?_
              | refine AW_store ty_num rfl rfl rfl rfl rfl rfl rfl ?_
              | refine AW_extract rfl rfl rfl ?_
              | refine AW_alloc rfl tz_num ?_
              | refine AW_box rfl rfl (row := true) rfl (fun h => by cases h) rfl ?_
              | refine AW_not rfl rfl ?_
              | refine AW_build rfl tb_num rfl ?_
              | refine AW_call rfl rfl (by first | exact z2 | exact z3 | exact z4 | exact oo | exact s3) ?_
              | refine AW_ints rfl tu_nums ti_num ti_size ti_zero rfl rfl rfl (by first | exact .cons _ _ _ _ _ rfl (.cons _ _ _ _ _ rfl (.nil _)) | exact .cons _ _ _ _ _ rfl (.cons _ _ _ _ _ rfl (.cons _ _ _ _ _ rfl (.cons _ _ _ _ _ rfl (.nil _)))) | exact .cons _ _ _ _ _ rfl (.cons _ _ _ _ _ rfl (.cons _ _ _ _ _ rfl (.nil _))) | exact .cons _ _ _ _ _ rfl (.cons _ _ _ _ _ rfl (.cons _ _ _ _ _ rfl (.cons _ _ _ _ _ rfl (.cons _ _ _ _ _ rfl (.nil _)))))) ?_
              | refine AW_fieldAddr rfl tf_neg rfl rfl ?_ | refine AW_fieldAddr rfl tf_mag rfl rfl ?_ | refine AW_load rfl ty_bool rfl rfl rfl rfl ?_ | refine AW_load rfl ty_mag rfl rfl rfl rfl ?_ | refine AW_beq rfl Tryz.underlying4 rfl rfl ?_ | refine AW_bne rfl Tryz.underlying4 rfl rfl ?_ | refine AW_len rfl rfl Tryz.underlying22 ?_ | refine AW_ge rfl rfl rfl ?_ | refine AW_gt rfl rfl rfl ?_ | refine AW_loadg rfl rfl rfl rfl ty_bool rfl rfl rfl hG ?_ | refine AW_fieldAddrg rfl rfl rfl rfl tf_neg rfl rfl ?_ | refine AW_neg rfl rfl rfl rfl rfl rfl ?_ | refine AW_ne rfl rfl rfl ?_ | refine AW_store1 ty_bool rfl rfl rfl rfl rfl ?_
              | refine AW_pickT rfl rfl rfl ?_
              | refine AW_pickF rfl rfl rfl ?_
              | refine AW_skip rfl rfl rfl rfl ?_
              | refine AW_pickTg rfl rfl rfl rfl rfl rfl ?_
              | refine AW_pickFg rfl rfl rfl rfl rfl rfl ?_
              | refine AW_moveg rfl rfl rfl rfl rfl ?_
              | refine AW_notg rfl rfl rfl rfl rfl ?_
              | refine AW_eqg rfl rfl rfl rfl rfl rfl ?_
              | refine AW_eq rfl rfl rfl ?_
              | refine AW_loadg rfl rfl rfl rfl ty_num rfl rfl rfl rfl ?_
              | refine AW_callg rfl rfl rfl rfl rfl (by first | exact z2 | exact z3 | exact z4 | exact oo | exact s3) ?_
              | refine AW_nil (fun (h : false = true) => by cases h) ?_
              | refine AW_nil (fun (_ : true = true) => by kernel_rfl) ?_
              | refine Wp_block ?_
              | refine Wp_skip ?_
              | refine Wp_exit ?_
              | refine Wp_ret ?_
            exact ⟨.inr rfl, _, .tmp _ _ _ _ rfl .nil, rfl⟩
      · obtain ⟨b0, b1, -⟩ := bzX_spec (a := a) h0
        have hX := signF b0
        have hL := signF (lcmV_nonneg a b)
        have z1 := ct_lzF b h0
        have gp := gcdZ_pos (a := a) h0
        have kE := ct_Exact0 (b.natAbs : Int) (gcdZ a b) (by rw [Int.natAbs_natCast]; omega) (by omega) (by omega) (by
          show ((b.natAbs % Nat.gcd a.natAbs b.natAbs : Nat) : Int) = 0
          rw [Nat.mod_eq_zero_of_dvd (Nat.gcd_dvd_right _ _)]; rfl)
        rw [show (b.natAbs : Int).tdiv (gcdZ a b) = bM a b from rfl] at kE
        have kE' : Ct Tryz.prog 15 [aNum (false, (rawOf b).2), aZ (gcdZ a b)] (.tup [zZ (bM a b), aB true, aI 0]) := by rw [raw_abs]; exact kE
        have lM : lc (bM a b).natAbs ≤ 90 := Nat.le_trans (lc_mono (bM_le a b)) lb
        have kB := ct_below (bzX a b) (bM a b) (by omega) (by omega)
        rw [decide_eq_true b1] at kB
        have m4 := ct_Mul0 a b (by omega) (by omega) (by omega)
        have m5 := ct_Mul0 (gcdZ a b) (lcmV a b) (by omega) (by omega) (by omega)
        rw [gcd_lcm] at m5
        have lab : lc (a * b).natAbs ≤ 180 := lc_times la lb
        have s2 := ct_SameT (rawOf ((a * b).natAbs : Int)) (raw_len (by rw [Int.natAbs_natCast]; omega))
        have s3 : Ct Tryz.prog 22 [aNum (false, (rawOf (a * b)).2), aZ ((a * b).natAbs : Int)] (.val (aB true)) := by rw [raw_abs]; exact s2
        repeat first
          | refine Wp_seq ?_
          | refine Wp_region tm_mixed ?_
          | refine AW_move rfl rfl ?_
          | refine AW_assign rfl rfl ?_
          | refine AW_load rfl ty_num rfl rfl rfl rfl ?_
          | refine AW_store ty_num rfl rfl rfl rfl rfl rfl rfl ?_
          | refine AW_extract rfl rfl rfl ?_
          | refine AW_alloc rfl tz_num ?_
          | refine AW_box rfl rfl (row := true) rfl (fun h => by cases h) rfl ?_
          | refine AW_not rfl rfl ?_
          | refine AW_build rfl tb_num rfl ?_
          | refine AW_call rfl rfl (by first | exact s1 | exact z1) ?_
          | refine AW_ints rfl tu_nums ti_num ti_size ti_zero rfl rfl rfl (by first | exact .cons _ _ _ _ _ rfl (.cons _ _ _ _ _ rfl (.nil _)) | exact .cons _ _ _ _ _ rfl (.cons _ _ _ _ _ rfl (.cons _ _ _ _ _ rfl (.cons _ _ _ _ _ rfl (.nil _)))) | exact .cons _ _ _ _ _ rfl (.cons _ _ _ _ _ rfl (.cons _ _ _ _ _ rfl (.nil _))) | exact .cons _ _ _ _ _ rfl (.cons _ _ _ _ _ rfl (.cons _ _ _ _ _ rfl (.cons _ _ _ _ _ rfl (.cons _ _ _ _ _ rfl (.nil _)))))) ?_
          | refine AW_fieldAddr rfl tf_neg rfl rfl ?_ | refine AW_fieldAddr rfl tf_mag rfl rfl ?_ | refine AW_load rfl ty_bool rfl rfl rfl rfl ?_ | refine AW_load rfl ty_mag rfl rfl rfl rfl ?_ | refine AW_beq rfl Tryz.underlying4 rfl rfl ?_ | refine AW_bne rfl Tryz.underlying4 rfl rfl ?_ | refine AW_len rfl rfl Tryz.underlying22 ?_ | refine AW_ge rfl rfl rfl ?_ | refine AW_gt rfl rfl rfl ?_ | refine AW_loadg rfl rfl rfl rfl ty_bool rfl rfl rfl hG ?_ | refine AW_fieldAddrg rfl rfl rfl rfl tf_neg rfl rfl ?_ | refine AW_neg rfl rfl rfl rfl rfl rfl ?_ | refine AW_ne rfl rfl rfl ?_ | refine AW_store1 ty_bool rfl rfl rfl rfl rfl ?_ | refine AW_loadg rfl rfl rfl rfl ty_bool rfl rfl rfl hX ?_
          | refine AW_pickT rfl rfl rfl ?_
          | refine AW_pickF rfl rfl rfl ?_
          | refine AW_skip rfl rfl rfl rfl ?_
          | refine AW_pickTg rfl rfl rfl rfl rfl rfl ?_
          | refine AW_pickFg rfl rfl rfl rfl rfl rfl ?_
          | refine AW_moveg rfl rfl rfl rfl rfl ?_
          | refine AW_notg rfl rfl rfl rfl rfl ?_
          | refine AW_eqg rfl rfl rfl rfl rfl rfl ?_
          | refine AW_eq rfl rfl rfl ?_
          | refine AW_loadg rfl rfl rfl rfl ty_num rfl rfl rfl rfl ?_
          | refine AW_callg rfl rfl rfl rfl rfl (by first | exact s1 | exact z1) ?_
          | refine AW_nil (fun (h : false = true) => by cases h) ?_
          | refine AW_nil (fun (_ : true = true) => by kernel_rfl) ?_
          | refine Wp_block ?_
          | refine Wp_skip ?_
          | refine Wp_exit ?_
          | refine Wp_ret ?_
        refine Wp_condF rfl ?_
        repeat first
          | refine Wp_seq ?_
          | refine Wp_region tm_mixed ?_
          | refine AW_move rfl rfl ?_
          | refine AW_assign rfl rfl ?_
          | refine AW_load rfl ty_num rfl rfl rfl rfl ?_
          | refine AW_store ty_num rfl rfl rfl rfl rfl rfl rfl ?_
          | refine AW_extract rfl rfl rfl ?_
          | refine AW_alloc rfl tz_num ?_
          | refine AW_box rfl rfl (row := true) rfl (fun h => by cases h) rfl ?_
          | refine AW_not rfl rfl ?_
          | refine AW_build rfl tb_num rfl ?_
          | refine AW_call rfl rfl (by first | exact z1) ?_
          | refine AW_ints rfl tu_nums ti_num ti_size ti_zero rfl rfl rfl (by first | exact .cons _ _ _ _ _ rfl (.cons _ _ _ _ _ rfl (.nil _)) | exact .cons _ _ _ _ _ rfl (.cons _ _ _ _ _ rfl (.cons _ _ _ _ _ rfl (.cons _ _ _ _ _ rfl (.nil _)))) | exact .cons _ _ _ _ _ rfl (.cons _ _ _ _ _ rfl (.cons _ _ _ _ _ rfl (.nil _))) | exact .cons _ _ _ _ _ rfl (.cons _ _ _ _ _ rfl (.cons _ _ _ _ _ rfl (.cons _ _ _ _ _ rfl (.cons _ _ _ _ _ rfl (.nil _)))))) ?_
          | refine AW_fieldAddr rfl tf_neg rfl rfl ?_ | refine AW_fieldAddr rfl tf_mag rfl rfl ?_ | refine AW_load rfl ty_bool rfl rfl rfl rfl ?_ | refine AW_load rfl ty_mag rfl rfl rfl rfl ?_ | refine AW_beq rfl Tryz.underlying4 rfl rfl ?_ | refine AW_bne rfl Tryz.underlying4 rfl rfl ?_ | refine AW_len rfl rfl Tryz.underlying22 ?_ | refine AW_ge rfl rfl rfl ?_ | refine AW_gt rfl rfl rfl ?_ | refine AW_loadg rfl rfl rfl rfl ty_bool rfl rfl rfl hG ?_ | refine AW_fieldAddrg rfl rfl rfl rfl tf_neg rfl rfl ?_ | refine AW_neg rfl rfl rfl rfl rfl rfl ?_ | refine AW_ne rfl rfl rfl ?_ | refine AW_store1 ty_bool rfl rfl rfl rfl rfl ?_
          | refine AW_pickT rfl rfl rfl ?_
          | refine AW_pickF rfl rfl rfl ?_
          | refine AW_skip rfl rfl rfl rfl ?_
          | refine AW_pickTg rfl rfl rfl rfl rfl rfl ?_
          | refine AW_pickFg rfl rfl rfl rfl rfl rfl ?_
          | refine AW_moveg rfl rfl rfl rfl rfl ?_
          | refine AW_notg rfl rfl rfl rfl rfl ?_
          | refine AW_eqg rfl rfl rfl rfl rfl rfl ?_
          | refine AW_eq rfl rfl rfl ?_
          | refine AW_loadg rfl rfl rfl rfl ty_num rfl rfl rfl rfl ?_
          | refine AW_callg rfl rfl rfl rfl rfl (by first | exact z1) ?_
          | refine AW_nil (fun (h : false = true) => by cases h) ?_
          | refine AW_nil (fun (_ : true = true) => by kernel_rfl) ?_
          | refine Wp_block ?_
          | refine Wp_skip ?_
          | refine Wp_exit ?_
          | refine Wp_ret ?_
        refine Wp_condF rfl ?_
        repeat first
          | refine Wp_seq ?_
          | refine Wp_region tm_mixed ?_
          | refine AW_move rfl rfl ?_
          | refine AW_assign rfl rfl ?_
          | refine AW_load rfl ty_num rfl rfl rfl rfl ?_
          | refine AW_store ty_num rfl rfl rfl rfl rfl rfl rfl ?_
          | refine AW_extract rfl rfl rfl ?_
          | refine AW_alloc rfl tz_num ?_
          | refine AW_box rfl rfl (row := true) rfl (fun h => by cases h) rfl ?_
          | refine AW_not rfl rfl ?_
          | refine AW_build rfl tb_num rfl ?_
          | refine AW_call rfl rfl (by first | exact kE') ?_
          | refine AW_ints rfl tu_nums ti_num ti_size ti_zero rfl rfl rfl (by first | exact .cons _ _ _ _ _ rfl (.cons _ _ _ _ _ rfl (.nil _)) | exact .cons _ _ _ _ _ rfl (.cons _ _ _ _ _ rfl (.cons _ _ _ _ _ rfl (.cons _ _ _ _ _ rfl (.nil _)))) | exact .cons _ _ _ _ _ rfl (.cons _ _ _ _ _ rfl (.cons _ _ _ _ _ rfl (.nil _))) | exact .cons _ _ _ _ _ rfl (.cons _ _ _ _ _ rfl (.cons _ _ _ _ _ rfl (.cons _ _ _ _ _ rfl (.cons _ _ _ _ _ rfl (.nil _)))))) ?_
          | refine AW_fieldAddr rfl tf_neg rfl rfl ?_ | refine AW_fieldAddr rfl tf_mag rfl rfl ?_ | refine AW_load rfl ty_bool rfl rfl rfl rfl ?_ | refine AW_load rfl ty_mag rfl rfl rfl rfl ?_ | refine AW_beq rfl Tryz.underlying4 rfl rfl ?_ | refine AW_bne rfl Tryz.underlying4 rfl rfl ?_ | refine AW_len rfl rfl Tryz.underlying22 ?_ | refine AW_ge rfl rfl rfl ?_ | refine AW_gt rfl rfl rfl ?_ | refine AW_loadg rfl rfl rfl rfl ty_bool rfl rfl rfl hG ?_ | refine AW_fieldAddrg rfl rfl rfl rfl tf_neg rfl rfl ?_ | refine AW_neg rfl rfl rfl rfl rfl rfl ?_ | refine AW_ne rfl rfl rfl ?_ | refine AW_store1 ty_bool rfl rfl rfl rfl rfl ?_
          | refine AW_pickT rfl rfl rfl ?_
          | refine AW_pickF rfl rfl rfl ?_
          | refine AW_skip rfl rfl rfl rfl ?_
          | refine AW_pickTg rfl rfl rfl rfl rfl rfl ?_
          | refine AW_pickFg rfl rfl rfl rfl rfl rfl ?_
          | refine AW_moveg rfl rfl rfl rfl rfl ?_
          | refine AW_notg rfl rfl rfl rfl rfl ?_
          | refine AW_eqg rfl rfl rfl rfl rfl rfl ?_
          | refine AW_eq rfl rfl rfl ?_
          | refine AW_loadg rfl rfl rfl rfl ty_num rfl rfl rfl rfl ?_
          | refine AW_callg rfl rfl rfl rfl rfl (by first | exact kE') ?_
          | refine AW_nil (fun (h : false = true) => by cases h) ?_
          | refine AW_nil (fun (_ : true = true) => by kernel_rfl) ?_
          | refine Wp_block ?_
          | refine Wp_skip ?_
          | refine Wp_exit ?_
          | refine Wp_ret ?_
        repeat first
          | refine Wp_seq ?_
          | refine Wp_region tm_mixed ?_
          | refine AW_move rfl rfl ?_
          | refine AW_assign rfl rfl ?_
          | refine AW_load rfl ty_num rfl rfl rfl rfl ?_
          | refine AW_store ty_num rfl rfl rfl rfl rfl rfl rfl ?_
          | refine AW_extract rfl rfl rfl ?_
          | refine AW_alloc rfl tz_num ?_
          | refine AW_box rfl rfl (row := true) rfl (fun h => by cases h) rfl ?_
          | refine AW_not rfl rfl ?_
          | refine AW_build rfl tb_num rfl ?_
          | refine AW_call rfl rfl (by first | exact kB) ?_
          | refine AW_ints rfl tu_nums ti_num ti_size ti_zero rfl rfl rfl (by first | exact .cons _ _ _ _ _ rfl (.cons _ _ _ _ _ rfl (.nil _)) | exact .cons _ _ _ _ _ rfl (.cons _ _ _ _ _ rfl (.cons _ _ _ _ _ rfl (.cons _ _ _ _ _ rfl (.nil _)))) | exact .cons _ _ _ _ _ rfl (.cons _ _ _ _ _ rfl (.cons _ _ _ _ _ rfl (.nil _))) | exact .cons _ _ _ _ _ rfl (.cons _ _ _ _ _ rfl (.cons _ _ _ _ _ rfl (.cons _ _ _ _ _ rfl (.cons _ _ _ _ _ rfl (.nil _)))))) ?_
          | refine AW_fieldAddr rfl tf_neg rfl rfl ?_ | refine AW_fieldAddr rfl tf_mag rfl rfl ?_ | refine AW_load rfl ty_bool rfl rfl rfl rfl ?_ | refine AW_load rfl ty_mag rfl rfl rfl rfl ?_ | refine AW_beq rfl Tryz.underlying4 rfl rfl ?_ | refine AW_bne rfl Tryz.underlying4 rfl rfl ?_ | refine AW_len rfl rfl Tryz.underlying22 ?_ | refine AW_ge rfl rfl rfl ?_ | refine AW_gt rfl rfl rfl ?_ | refine AW_loadg rfl rfl rfl rfl ty_bool rfl rfl rfl hG ?_ | refine AW_fieldAddrg rfl rfl rfl rfl tf_neg rfl rfl ?_ | refine AW_neg rfl rfl rfl rfl rfl rfl ?_ | refine AW_ne rfl rfl rfl ?_ | refine AW_store1 ty_bool rfl rfl rfl rfl rfl ?_
          | refine AW_pickT rfl rfl rfl ?_
          | refine AW_pickF rfl rfl rfl ?_
          | refine AW_skip rfl rfl rfl rfl ?_
          | refine AW_pickTg rfl rfl rfl rfl rfl rfl ?_
          | refine AW_pickFg rfl rfl rfl rfl rfl rfl ?_
          | refine AW_moveg rfl rfl rfl rfl rfl ?_
          | refine AW_notg rfl rfl rfl rfl rfl ?_
          | refine AW_eqg rfl rfl rfl rfl rfl rfl ?_
          | refine AW_eq rfl rfl rfl ?_
          | refine AW_loadg rfl rfl rfl rfl ty_num rfl rfl rfl rfl ?_
          | refine AW_callg rfl rfl rfl rfl rfl (by first | exact kB) ?_
          | refine AW_nil (fun (h : false = true) => by cases h) ?_
          | refine AW_nil (fun (_ : true = true) => by kernel_rfl) ?_
          | refine Wp_block ?_
          | refine Wp_skip ?_
          | refine Wp_exit ?_
          | refine Wp_ret ?_
        refine Wp_condF rfl ?_
        repeat first
          | refine Wp_seq ?_
          | refine Wp_region tm_mixed ?_
          | refine AW_move rfl rfl ?_
          | refine AW_assign rfl rfl ?_
          | refine AW_load rfl ty_num rfl rfl rfl rfl ?_
          | refine AW_store ty_num rfl rfl rfl rfl rfl rfl rfl ?_
          | refine AW_extract rfl rfl rfl ?_
          | refine AW_alloc rfl tz_num ?_
          | refine AW_box rfl rfl (row := true) rfl (fun h => by cases h) rfl ?_
          | refine AW_not rfl rfl ?_
          | refine AW_build rfl tb_num rfl ?_
          | refine AW_call rfl rfl (by first | exact m4 | exact m5 | exact s3) ?_
          | refine AW_ints rfl tu_nums ti_num ti_size ti_zero rfl rfl rfl (by first | exact .cons _ _ _ _ _ rfl (.cons _ _ _ _ _ rfl (.nil _)) | exact .cons _ _ _ _ _ rfl (.cons _ _ _ _ _ rfl (.cons _ _ _ _ _ rfl (.cons _ _ _ _ _ rfl (.nil _)))) | exact .cons _ _ _ _ _ rfl (.cons _ _ _ _ _ rfl (.cons _ _ _ _ _ rfl (.nil _))) | exact .cons _ _ _ _ _ rfl (.cons _ _ _ _ _ rfl (.cons _ _ _ _ _ rfl (.cons _ _ _ _ _ rfl (.cons _ _ _ _ _ rfl (.nil _)))))) ?_
          | refine AW_fieldAddr rfl tf_neg rfl rfl ?_ | refine AW_fieldAddr rfl tf_mag rfl rfl ?_ | refine AW_load rfl ty_bool rfl rfl rfl rfl ?_ | refine AW_load rfl ty_mag rfl rfl rfl rfl ?_ | refine AW_beq rfl Tryz.underlying4 rfl rfl ?_ | refine AW_bne rfl Tryz.underlying4 rfl rfl ?_ | refine AW_len rfl rfl Tryz.underlying22 ?_ | refine AW_ge rfl rfl rfl ?_ | refine AW_gt rfl rfl rfl ?_ | refine AW_loadg rfl rfl rfl rfl ty_bool rfl rfl rfl hG ?_ | refine AW_fieldAddrg rfl rfl rfl rfl tf_neg rfl rfl ?_ | refine AW_neg rfl rfl rfl rfl rfl rfl ?_ | refine AW_ne rfl rfl rfl ?_ | refine AW_store1 ty_bool rfl rfl rfl rfl rfl ?_ | refine AW_loadg rfl rfl rfl rfl ty_bool rfl rfl rfl hL ?_
          | refine AW_pickT rfl rfl rfl ?_
          | refine AW_pickF rfl rfl rfl ?_
          | refine AW_skip rfl rfl rfl rfl ?_
          | refine AW_pickTg rfl rfl rfl rfl rfl rfl ?_
          | refine AW_pickFg rfl rfl rfl rfl rfl rfl ?_
          | refine AW_moveg rfl rfl rfl rfl rfl ?_
          | refine AW_notg rfl rfl rfl rfl rfl ?_
          | refine AW_eqg rfl rfl rfl rfl rfl rfl ?_
          | refine AW_eq rfl rfl rfl ?_
          | refine AW_loadg rfl rfl rfl rfl ty_num rfl rfl rfl rfl ?_
          | refine AW_callg rfl rfl rfl rfl rfl (by first | exact m4 | exact m5 | exact s3) ?_
          | refine AW_nil (fun (h : false = true) => by cases h) ?_
          | refine AW_nil (fun (_ : true = true) => by kernel_rfl) ?_
          | refine Wp_block ?_
          | refine Wp_skip ?_
          | refine Wp_exit ?_
          | refine Wp_ret ?_
        exact ⟨.inr rfl, _, .tmp _ _ _ _ rfl .nil, rfl⟩
end Go.Proofs.YtonbhpadoplpkaaGreat
/- Arguments are opened; what a call leaves reads as it read. -/
namespace Go.Proofs.YtonbhpadoplpkaaGreat
open Go.ChangeShapes Go.WideShapes Go.ChangeAt Go.RowKit Go.Deep
theorem laid_out : laidOutB Tryz.prog = true := by kernel_rfl
section
variable {H : Type} {enc : TypeId × Value → H}
theorem since_of_below {w w' : World} (h : Below w.heap.size w w') : w.Since w.heap.size w' := ⟨h.os, h.tape, h.output, h.size, h.block⟩
/-- What was read before reads so behind a call that wrote nothing old. -/
theorem stays {t : TypeId} (hr : Tryz.prog.readableRec t = true) (hrow : t < Tryz.prog.types.size) {W W' : World} {sp : Nat → Bool} {v : Value} {d : DataW H} {ps : List MemPlace}
    (h : DataW.Trod enc Tryz.prog W 0 (fun _ => true) true t v d ps) (hb : Below W.heap.size W W') (hl : ∀ p ∈ ps, p.block < W.heap.size) (hs : ∀ p ∈ ps, sp p.block = true) : DataW.Trod enc Tryz.prog W' 0 sp true t v d ps :=
  WideElems.Trod_stays laid_out hr hrow h (fun p hp => (since_of_below hb).sameAt (hl p hp)) hs
set_option maxRecDepth 10000 in
/-- The statement of a law's row, out of a walk that wrote nothing old. -/
theorem post_law {f : Func} {s : ChangeSpec} {W W' : World} {args : Array Value} {v : Value} {ds gs : List (DataW H)} {before : List MemPlace}
    (hW : DataW.Whole enc Tryz.prog f.params.toList s.vars false W args.toList ds gs before) (hb : Below W.heap.size W W')
    (hres : ∀ (b : Nat) (sp : Nat → Bool) (hd : Bool), DataW.TrodAll enc Tryz.prog W' b sp hd f.resultTypes.toList (v.resultList f.resultTypes.size) (s.fn H (ds ++ gs)).results [])
    (hargs : ∀ sp : Nat → Bool, (∀ p ∈ before, sp p.block = true) → DataW.TrodAll enc Tryz.prog W' 0 sp true f.params.toList args.toList (s.fn H (ds ++ gs)).args before)
    (hvars : ∀ sp : Nat → Bool, DataW.TrodVars enc Tryz.prog W' sp s.vars (s.fn H (ds ++ gs)).vars [])
    (hok : ∀ (j : Nat) (t : TypeId) (r : Value), f.resultTypes[j]? = some t → (v.resultList f.resultTypes.size)[j]? = some r → Value.okWide Tryz.prog W' .any 0 t r) :
    s.post enc Tryz.prog f false true false false W args v W' := by
  have hlt : ∀ p ∈ before, p.block < W.heap.size := fun p hp => hW.lt p hp
  have hold : ∀ p ∈ before, (fun b => decide (b < W.heap.size)) p.block = true := fun p hp => by simpa using hlt p hp
  refine ⟨ds, gs, before, [], before, [], hW, hres _ _ _, hargs _ hold, hvars _, World.keptBut_mono (fun p hp => ⟨hp, .inr (.inl hp)⟩) ((since_of_below hb).frame (· ∈ before)), fun _ => ?_⟩
  obtain ⟨_, _, _, _, _, hz, _⟩ := hW
  refine ⟨hok, _, _, ([] ++ before) ++ [], ⟨[] ++ before, [], trodAll_append (hargs _ (fun _ _ => rfl)) (hres _ _ _), hvars _, rfl, ?_, fun h => by cases h⟩, fun p hp _ => by simpa using hp⟩
  intro b off hp
  have hp' : MemPlace.cell b off ∈ before := by simpa using hp
  rw [(since_of_below hb).frozen (a := ⟨b, off, none⟩) (hlt _ hp')]
  exact hz b off hp'
theorem cells_rec : Tryz.prog.cellsOf 24 = 2 := by kernel_rfl
theorem cells_u64 : Tryz.prog.cellsOf 85 = 1 := by kernel_rfl
theorem cells_bool : Tryz.prog.cellsOf 4 = 1 := by kernel_rfl
theorem cells_limbs : Tryz.prog.cellsOf 22 = 1 := by kernel_rfl
/-- A slice of limbs that came in. -/
theorem open_limbs {W : World} {v : Value} {x : DataW H × List MemPlace} {n : Nat} (h : DataW.trod enc Tryz.prog W 0 (fun _ => true) true n 22 [v] = some x) : ∃ A l c xs, v = .slice A l c ∧ l = xs.length ∧ l ≤ c ∧ Lim W W.heap.size A xs := by
  rcases open_ints (k := .u64) Tryz.underlying22 Tryz.underlying85 cells_u64 h with ⟨e, _⟩ | ⟨a, len, cap, zs, e, _, hl, hm, hzl, _, hc, hwf⟩
  · injection e with e
    exact ⟨none, 0, 0, [], e, rfl, Nat.le_refl _, Lim.nil _ _ _⟩
  · injection e with e
    simp only [if_true] at hzl
    have hnn : ∀ z ∈ zs, 0 ≤ z ∧ z < 18446744073709551616 := by
      intro z hz
      have h1 := hwf z hz
      simp only [Lit.wf, IntKind.min, IntKind.max, IntKind.signed, IntKind.bits, Bool.and_eq_true] at h1
      obtain ⟨h2, h3⟩ := h1
      simp at h2 h3
      omega
    refine ⟨some a, len, cap, (zs.take len).map Int.toNat, e, by simp; omega, hl, ?_, fun hp => ⟨a, rfl, ?_, fun j hj => ?_⟩⟩
    · intro y hy
      obtain ⟨z, hz, rfl⟩ := List.mem_map.1 hy
      have h1 := hnn z (List.mem_of_mem_take hz)
      rw [W64_eq]; omega
    · simp at hp
      have h1 := hc 0 (by omega)
      have h2 := World.block_lt_of_cell? W (a.add 0) h1
      rwa [block_of_add] at h2
    · simp at hj
      rw [hc j (by omega)]
      have h1 := hnn (zs.getD j 0) (by
        rw [List.getD_eq_getElem?_getD, List.getElem?_eq_getElem (by omega)]; exact List.getElem_mem _)
      have e1 : ((zs.take len).map Int.toNat).getD j 0 = (zs.getD j 0).toNat := by
        have h2 : j < len := by omega
        have h3 : j < zs.length := by omega
        simp [h2, h3]
      rw [e1]
      congr 2
      omega
set_option maxRecDepth 100000 in
/-- A record that came in. -/
theorem open_raw {W : World} {base : Nat} {v : Value} {d : DataW H} {ps : List MemPlace} (hv : Value.okWide Tryz.prog W .any base 24 v) (h : DataW.Trod enc Tryz.prog W 0 (fun _ => true) true 24 v d ps) : ∃ b A l c xs, v = .agg #[.bool b, .slice A l c] ∧ l = xs.length ∧ l ≤ c ∧ Lim W W.heap.size A xs := by
  obtain ⟨cs, rfl, hsz⟩ := okWide_struct Tryz.underlying24 hv
  rw [cells_rec] at hsz
  obtain ⟨fuel, hf⟩ := h
  obtain ⟨x, y, rfl⟩ : ∃ x y, cs = #[x, y] := by
    obtain ⟨l⟩ := cs
    match l, hsz with
    | [x, y], _ => exact ⟨x, y, rfl⟩
  obtain ⟨xs, k, hk, hxy, _, hxl, hg⟩ := DataW.trod_struct Tryz.underlying24 hf
  match xs, hxl with
  | [y0, y1], _ =>
    have g0 := hg 0 _ rfl
    have g1 := hg 1 _ rfl
    simp [Value.cells, cells_bool, cells_limbs] at g0 g1
    obtain ⟨b, e0, _⟩ := DataW.trod_bool Tryz.underlying4 g0
    obtain ⟨A, l, c, xs, e1, hl1, hc1, hlim⟩ := open_limbs g1
    injection e0 with e0
    exact ⟨b, A, l, c, xs, by rw [e0, e1], hl1, hc1, hlim⟩
end
end Go.Proofs.YtonbhpadoplpkaaGreat
