import Derived.Test.YtonbhpadoplpkaaGreatJe
import Derived.Test.YtonbhpadoplpkaaGreatProg
import Derived.WalkKit
import Derived.Laws.OwnMore
import Derived.Deep.Draws
import Derived.Deep.OwnRows
import Derived.Deep.LoopGhost
import Derived.Deep.QuietTactic
import Derived.BigQuiet
import Derived.Lib.Hide
import Derived.Maps.AppendAt
import Derived.Laws.Rows
import Derived.OneCell
import Derived.Shelf.Spec.BitsCarry
import Derived.Deep.DeepCutAuto
import Derived.Shelf.Small.Bits
import Derived.Shelf.Strconv.Itoa0
import Derived.Shelf.Bits.Mul64
import Derived.Lib.BitFns
import Derived.Deep.CutBlock
import Derived.BigRegion
import Derived.StillTailTactics
import Derived.Deep.AppendLies
import Derived.Orders
import Derived.Lib.SliceRun
import Derived.Deep.MidRow
import Derived.BigCall
import Derived.Laws.AppendOwn
import Derived.Great.BuildSlice
import Derived.Deep.RegionWith
import Derived.WalkMore
import Derived.Laws.EntriesVeiled
import Derived.Laws.CopyOwn
import Derived.Test.YtonbhpadoplpkaaGreatRows
import Derived.ProofKit
import Derived.OpenShut
import Derived.Deep.SlicePairs
import Derived.WideKeyArgs
/- Of: Gbez, Gjoin, R20, Law20, Law20m, GjoinP, Law20r. -/
/- The package gcd, by the abstract machine: Bezout. -/
namespace Go.Proofs.YtonbhpadoplpkaaGreat
open Go.RowKit Go.Deep
/-- How often a stands in the divisor, ahead of the turns. -/
def eX (a b : Int) : Int := if a < 0 then -(eucR true a.natAbs b.natAbs).2.1 else (eucR true a.natAbs b.natAbs).2.1
def eY (a b : Int) : Int := if b < 0 then -(eucR true a.natAbs b.natAbs).2.2 else (eucR true a.natAbs b.natAbs).2.2
def bM (a b : Int) : Int := ((b.natAbs / Nat.gcd a.natAbs b.natAbs : Nat) : Int)
def bT (a b : Int) : Int := if b < 0 then -(a.tdiv (gcdZ a b)) else a.tdiv (gcdZ a b)
def bzX (a b : Int) : Int := if b = 0 then Int.sign a else eX a b % bM a b
def bzY (a b : Int) : Int := if b = 0 then 0 else (gcdZ a b - a * bzX a b).tdiv b
theorem gcdZ_pos {a b : Int} (h : b ≠ 0) : 0 < gcdZ a b := by
  have := Nat.gcd_pos_of_pos_right a.natAbs (show 0 < b.natAbs by omega)
  show 0 < ((Nat.gcd a.natAbs b.natAbs : Nat) : Int)
  omega
theorem gcdZ_dvd_left (a b : Int) : gcdZ a b ∣ a := by
  show ((Nat.gcd a.natAbs b.natAbs : Nat) : Int) ∣ a
  rw [Int.ofNat_dvd_left]
  exact Nat.gcd_dvd_left _ _
theorem gcdZ_dvd_right (a b : Int) : gcdZ a b ∣ b := by
  show ((Nat.gcd a.natAbs b.natAbs : Nat) : Int) ∣ b
  rw [Int.ofNat_dvd_left]
  exact Nat.gcd_dvd_right _ _
theorem bM_mul (a b : Int) : bM a b * gcdZ a b = (b.natAbs : Int) := by
  unfold bM gcdZ
  rw [← Int.natCast_mul, Nat.div_mul_cancel (Nat.gcd_dvd_right _ _)]
theorem bM_pos {a b : Int} (h : b ≠ 0) : 0 < bM a b := by
  have h1 := bM_mul a b
  have h2 := gcdZ_pos (a := a) h
  rcases Int.lt_trichotomy (bM a b) 0 with h3 | h3 | h3
  · have := Int.mul_neg_of_neg_of_pos h3 h2; omega
  · rw [h3] at h1; simp at h1; omega
  · exact h3
theorem bT_mul {a b : Int} (h : b ≠ 0) : b * bT a b = a * bM a b := by
  have hg : gcdZ a b ≠ 0 := by have := gcdZ_pos (a := a) h; omega
  have ha : a.tdiv (gcdZ a b) * gcdZ a b = a := Int.tdiv_mul_cancel (gcdZ_dvd_left a b)
  have hm := bM_mul a b
  refine Int.eq_of_mul_eq_mul_right hg ?_
  unfold bT
  by_cases hb : b < 0
  · rw [if_pos hb, Int.mul_assoc, Int.neg_mul, ha, Int.mul_assoc, hm, Int.mul_comm a]
    rw [show (b.natAbs : Int) = -b by omega, Int.mul_neg, Int.neg_mul]
  · rw [if_neg hb, Int.mul_assoc, ha, Int.mul_assoc, hm, Int.mul_comm a]
    rw [show (b.natAbs : Int) = b by omega]
theorem signs_mul {a x : Int} : (if a < 0 then -x else x) * a = (a.natAbs : Int) * x := by
  by_cases h : a < 0
  · rw [if_pos h, show (a.natAbs : Int) = -a by omega, Int.neg_mul, Int.neg_mul, Int.mul_comm]
  · rw [if_neg h, show (a.natAbs : Int) = a by omega, Int.mul_comm]
theorem e_made (a b : Int) : a * eX a b + b * eY a b = gcdZ a b := by
  obtain ⟨x2, y2, h⟩ := eucR_row true a.natAbs b.natAbs
  have h1 := h.made0 rfl
  rw [eucR_gcd] at h1
  rw [Int.mul_comm a, Int.mul_comm b]
  unfold eX eY
  rw [signs_mul, signs_mul]
  exact h1
theorem eX_size (a b : Int) : (eX a b).natAbs ≤ max b.natAbs 1 := by
  obtain ⟨x2, y2, h⟩ := eucR_row true a.natAbs b.natAbs
  have := h.bx0
  unfold eX
  split
  · rw [Int.natAbs_neg]; exact this
  · exact this
theorem zZ_zero : zZ 0 = aInt (false, []) := by show aInt (rawOf 0) = _; rw [rawOf_zero]
theorem cmpZ_low {x y : Int} : cmpZ x y < 0 ↔ x < y := by
  rcases Int.lt_trichotomy x y with h | h | h
  · rw [cmpZ_lt h]; omega
  · subst h; rw [cmpZ_eq]; omega
  · rw [cmpZ_gt h]; omega
/-- What the turns keep. -/
structure Turn (a b x y : Int) : Prop where
  made : a * x + b * y = gcdZ a b
  rest : x % bM a b = eX a b % bM a b
  size : x.natAbs ≤ max b.natAbs 1
theorem Turn.start (a b : Int) : Turn a b (eX a b) (eY a b) := ⟨e_made a b, rfl, eX_size a b⟩
theorem bM_le (a b : Int) : (bM a b).natAbs ≤ b.natAbs := by unfold bM; rw [Int.natAbs_natCast]; exact Nat.div_le_self _ _
theorem Turn.up {a b x y : Int} (h : Turn a b x y) (hb : b ≠ 0) (hx : x < 0) : Turn a b (x + bM a b) (y - bT a b) := by
  refine ⟨?_, ?_, ?_⟩
  · rw [Int.mul_add, Int.mul_sub, bT_mul hb, ← h.made]; omega
  · rw [Int.add_emod_right]; exact h.rest
  · have := h.size; have := bM_pos (a := a) hb; have := bM_le a b; omega
theorem Turn.down {a b x y : Int} (h : Turn a b x y) (hb : b ≠ 0) (hx : bM a b ≤ x) : Turn a b (x - bM a b) (y + bT a b) := by
  refine ⟨?_, ?_, ?_⟩
  · rw [Int.mul_sub, Int.mul_add, bT_mul hb, ← h.made]; omega
  · rw [Int.sub_emod_right]; exact h.rest
  · have := h.size; have := bM_pos (a := a) hb; omega
theorem Turn.last {a b x y : Int} (h : Turn a b x y) (hb : b ≠ 0) (h0 : 0 ≤ x) (h1 : x < bM a b) : x = bzX a b ∧ y = bzY a b := by
  have e : x = bzX a b := by
    unfold bzX
    rw [if_neg hb, ← h.rest, Int.emod_eq_of_lt h0 h1]
  refine ⟨e, ?_⟩
  unfold bzY
  rw [if_neg hb, ← e]
  have h2 : gcdZ a b - a * x = y * b := by rw [← h.made, Int.mul_comm y]; omega
  rw [h2, Int.mul_tdiv_cancel _ hb]
theorem Turn.sizes {a b x y : Int} (h : Turn a b x y) (hb : b ≠ 0) (ha : lc a.natAbs ≤ 90) (hb' : lc b.natAbs ≤ 90) : lc x.natAbs ≤ 90 ∧ lc y.natAbs ≤ 1000 := by
  have hbn : 1 ≤ b.natAbs := by omega
  have hx : x.natAbs ≤ b.natAbs := by have := h.size; omega
  refine ⟨Nat.le_trans (lc_mono hx) hb', ?_⟩
  have h1 : b * y = gcdZ a b - a * x := by have := h.made; omega
  have h2 : b.natAbs * y.natAbs = (gcdZ a b - a * x).natAbs := by rw [← Int.natAbs_mul, h1]
  have h3 : (gcdZ a b - a * x).natAbs ≤ (gcdZ a b).natAbs + (a * x).natAbs := by omega
  have h4 : y.natAbs ≤ b.natAbs * y.natAbs := Nat.le_mul_of_pos_left _ hbn
  have h5 : y.natAbs ≤ (gcdZ a b).natAbs + (a * x).natAbs := by omega
  have h6 : lc (gcdZ a b).natAbs ≤ 90 := by unfold gcdZ; rw [Int.natAbs_natCast]; exact gcd_small ha hb'
  have h7 : lc (a * x).natAbs ≤ 180 := by rw [Int.natAbs_mul]; have := lc_mul a.natAbs x.natAbs; have := lc_mono hx; omega
  have h8 := lc_add (gcdZ a b).natAbs (a * x).natAbs
  have h9 := lc_mono h5
  omega
theorem bT_lc {a b : Int} (ha : lc a.natAbs ≤ 90) : lc (bT a b).natAbs ≤ 90 := by
  have : (bT a b).natAbs ≤ a.natAbs := by
    unfold bT
    split
    · rw [Int.natAbs_neg, Int.natAbs_tdiv]; exact Nat.div_le_self _ _
    · rw [Int.natAbs_tdiv]; exact Nat.div_le_self _ _
  exact Nat.le_trans (lc_mono this) ha
set_option maxHeartbeats 1000000 in
set_option maxRecDepth 100000 in
theorem ct_gBezout (a b : Int) (ha : lc a.natAbs ≤ 90) (hb : lc b.natAbs ≤ 90) : Ct Tryz.prog 28 [aZ a, aZ b] (.tup [zZ (gcdZ a b), zZ (bzX a b), zZ (bzY a b), aI 0]) := by
  have hla : lc a.natAbs ≤ 1099511627776 := by omega
  have hlb : lc b.natAbs ≤ 1099511627776 := by omega
  have hgz : ((eucR true a.natAbs b.natAbs).1 : Int) = gcdZ a b := by rw [eucR_gcd]
  have hx0 : lc (eucR true a.natAbs b.natAbs).2.1.natAbs ≤ 4096 := by obtain ⟨_, _, h⟩ := eucR_row true a.natAbs b.natAbs; exact Nat.le_trans (h.small ha hb).2.2.1 (by decide)
  have hy0 : lc (eucR true a.natAbs b.natAbs).2.2.natAbs ≤ 4096 := by obtain ⟨_, _, h⟩ := eucR_row true a.natAbs b.natAbs; exact Nat.le_trans (h.small ha hb).2.2.2.1 (by decide)
  refine ct_of_wp [.cell 4 24, .cell 5 24, .cell 6 24, .tmp 7] [(0, aZ a), (1, aZ b)] 124 Tryz.func28 rfl rfl rfl rfl rfl rfl rfl rfl ?_
  intro G0 w0
  repeat first
    | refine Wp_seq ?_
    | refine Wp_region tm_mixed ?_
    | refine AW_move rfl rfl ?_
    | refine AW_assign rfl rfl ?_
    | refine AW_load rfl ty_num rfl rfl rfl rfl ?_
    | refine AW_load rfl ty_row rfl rfl rfl rfl ?_
    | refine AW_store ty_num rfl rfl rfl rfl rfl rfl rfl ?_
    | refine AW_store ty_row rfl rfl rfl rfl rfl rfl rfl ?_
    | refine AW_extract rfl rfl rfl ?_
    | refine AW_alloc rfl tz_num ?_
    | refine AW_alloc rfl tz_row ?_
    | refine AW_box rfl rfl (row := true) rfl (fun h => by cases h) rfl ?_
    | refine AW_not rfl rfl ?_
    | refine AW_build rfl tb_num rfl ?_
    | refine AW_build rfl tb_row rfl ?_
    | refine AW_call rfl rfl (by first | exact ct_right _ (Nat.le_of_ble_eq_true rfl) | exact ct_gzeroT _ (by assumption) | exact ct_gzeroF _ (by assumption) | exact ct_gsize _ (by assumption) | exact ct_run _ _ _ ha hb) ?_
    | refine AW_ints rfl tu_nums ti_num ti_size ti_zero rfl rfl rfl (by first | exact .cons _ _ _ _ _ rfl (.cons _ _ _ _ _ rfl (.nil _)) | exact .cons _ _ _ _ _ rfl (.cons _ _ _ _ _ rfl (.cons _ _ _ _ _ rfl (.cons _ _ _ _ _ rfl (.nil _)))) | exact .cons _ _ _ _ _ rfl (.cons _ _ _ _ _ rfl (.cons _ _ _ _ _ rfl (.nil _))) | exact .cons _ _ _ _ _ rfl (.cons _ _ _ _ _ rfl (.cons _ _ _ _ _ rfl (.cons _ _ _ _ _ rfl (.cons _ _ _ _ _ rfl (.nil _)))))) ?_
    | refine AW_load rfl ty_bool rfl rfl rfl rfl ?_ | refine AW_fieldAddr rfl tf_neg rfl rfl ?_ | refine AW_fieldAddr rfl tf_row0 rfl rfl ?_ | refine AW_fieldAddr rfl tf_row1 rfl rfl ?_ | refine AW_arrayAt rfl Tryz.underlying75 ts_num rfl rfl rfl rfl ?_
    | refine AW_pickT rfl rfl rfl ?_
    | refine AW_pickF rfl rfl rfl ?_
    | refine AW_skip rfl rfl rfl rfl ?_
    | refine AW_pickTg rfl rfl rfl rfl rfl rfl ?_
    | refine AW_pickFg rfl rfl rfl rfl rfl rfl ?_
    | refine AW_moveg rfl rfl rfl rfl rfl ?_
    | refine AW_notg rfl rfl rfl rfl rfl ?_
    | refine AW_eqg rfl rfl rfl rfl rfl rfl ?_
    | refine AW_eq rfl rfl rfl ?_
    | refine AW_loadg rfl rfl rfl rfl ty_num rfl rfl rfl rfl ?_
    | refine AW_loadg rfl rfl rfl rfl ty_row rfl rfl rfl rfl ?_
    | refine AW_callg rfl rfl rfl rfl rfl (by first | exact ct_right _ (Nat.le_of_ble_eq_true rfl) | exact ct_gzeroT _ (by assumption) | exact ct_gzeroF _ (by assumption) | exact ct_gsize _ (by assumption) | exact ct_run _ _ _ ha hb) ?_
    | refine AW_nil (fun (h : false = true) => by cases h) ?_
    | refine AW_nil (fun (_ : true = true) => by kernel_rfl) ?_
    | refine Wp_block ?_
    | refine Wp_skip ?_
    | refine Wp_exit ?_
    | refine Wp_ret ?_
  refine Wp_cond rfl (fun hc => ?_) (fun hc => ?_)
  · simp [right_raw (Nat.le_trans ha (by decide)), right_raw (Nat.le_trans hb (by decide))] at hc
  · repeat first
      | refine Wp_seq ?_
      | refine Wp_region tm_mixed ?_
      | refine AW_move rfl rfl ?_
      | refine AW_assign rfl rfl ?_
      | refine AW_load rfl ty_num rfl rfl rfl rfl ?_
      | refine AW_load rfl ty_row rfl rfl rfl rfl ?_
      | refine AW_store ty_num rfl rfl rfl rfl rfl rfl rfl ?_
      | refine AW_store ty_row rfl rfl rfl rfl rfl rfl rfl ?_
      | refine AW_extract rfl rfl rfl ?_
      | refine AW_alloc rfl tz_num ?_
      | refine AW_alloc rfl tz_row ?_
      | refine AW_box rfl rfl (row := true) rfl (fun h => by cases h) rfl ?_
      | refine AW_not rfl rfl ?_
      | refine AW_build rfl tb_num rfl ?_
      | refine AW_build rfl tb_row rfl ?_
      | refine AW_call rfl rfl (by first | exact ct_right _ (Nat.le_of_ble_eq_true rfl) | exact ct_gzeroT _ (by assumption) | exact ct_gzeroF _ (by assumption) | exact ct_gsize _ (by assumption) | exact ct_run _ _ _ ha hb) ?_
      | refine AW_ints rfl tu_nums ti_num ti_size ti_zero rfl rfl rfl (by first | exact .cons _ _ _ _ _ rfl (.cons _ _ _ _ _ rfl (.nil _)) | exact .cons _ _ _ _ _ rfl (.cons _ _ _ _ _ rfl (.cons _ _ _ _ _ rfl (.cons _ _ _ _ _ rfl (.nil _)))) | exact .cons _ _ _ _ _ rfl (.cons _ _ _ _ _ rfl (.cons _ _ _ _ _ rfl (.nil _))) | exact .cons _ _ _ _ _ rfl (.cons _ _ _ _ _ rfl (.cons _ _ _ _ _ rfl (.cons _ _ _ _ _ rfl (.cons _ _ _ _ _ rfl (.nil _)))))) ?_
      | refine AW_load rfl ty_bool rfl rfl rfl rfl ?_ | refine AW_fieldAddr rfl tf_neg rfl rfl ?_ | refine AW_fieldAddr rfl tf_row0 rfl rfl ?_ | refine AW_fieldAddr rfl tf_row1 rfl rfl ?_ | refine AW_arrayAt rfl Tryz.underlying75 ts_num rfl rfl rfl rfl ?_
      | refine AW_pickT rfl rfl rfl ?_
      | refine AW_pickF rfl rfl rfl ?_
      | refine AW_skip rfl rfl rfl rfl ?_
      | refine AW_pickTg rfl rfl rfl rfl rfl rfl ?_
      | refine AW_pickFg rfl rfl rfl rfl rfl rfl ?_
      | refine AW_moveg rfl rfl rfl rfl rfl ?_
      | refine AW_notg rfl rfl rfl rfl rfl ?_
      | refine AW_eqg rfl rfl rfl rfl rfl rfl ?_
      | refine AW_eq rfl rfl rfl ?_
      | refine AW_loadg rfl rfl rfl rfl ty_num rfl rfl rfl rfl ?_
      | refine AW_loadg rfl rfl rfl rfl ty_row rfl rfl rfl rfl ?_
      | refine AW_callg rfl rfl rfl rfl rfl (by first | exact ct_right _ (Nat.le_of_ble_eq_true rfl) | exact ct_gzeroT _ (by assumption) | exact ct_gzeroF _ (by assumption) | exact ct_gsize _ (by assumption) | exact ct_run _ _ _ ha hb) ?_
      | refine AW_nil (fun (h : false = true) => by cases h) ?_
      | refine AW_nil (fun (_ : true = true) => by kernel_rfl) ?_
      | refine Wp_block ?_
      | refine Wp_skip ?_
      | refine Wp_exit ?_
      | refine Wp_ret ?_
    refine Wp_to (fun s' => Le s' ⟨[(2, .val (.one (.ptr 0 0))), (3, .val (.one (.ptr 1 0))), (4, .val (.one (.ptr 2 0))), (5, .val (.one (.ptr 3 0))), (6, .val (.one (.ptr 4 0))), (9, .val (.one (.ptr 6 0))), (10, .val (.one (.ptr 7 0))), (11, .val (.one (.ptr 8 0)))],
      [(0, 24, [.b (rawOf a).1, .st (magP (rawOf a).2)]), (1, 24, [.b (rawOf b).1, .st (magP (rawOf b).2)]), (2, 24, [.b false, .st (magP [])]), (3, 24, [.b false, .st (magP [])]), (4, 24, [.b false, .st (magP [])]),
       (6, 24, [.b (rawOf (gcdZ a b)).1, .st (magP (rawOf (gcdZ a b)).2)]), (7, 24, [.b (rawOf (eX a b)).1, .st (magP (rawOf (eX a b)).2)]), (8, 24, [.b (rawOf (eucR true a.natAbs b.natAbs).2.2).1, .st (magP (rawOf (eucR true a.natAbs b.natAbs).2.2).2)])], 9⟩) ?_ ?_
    · refine Wp_cond rfl (fun hc => ?_) (fun hc => ?_)
      · have hX : eX a b = -(eucR true a.natAbs b.natAbs).2.1 := by unfold eX; rw [if_pos (of_decide_eq_true hc)]
        rw [← hgz, hX]
        repeat first
          | refine Wp_seq ?_
          | refine Wp_region tm_mixed ?_
          | refine AW_move rfl rfl ?_
          | refine AW_assign rfl rfl ?_
          | refine AW_load rfl ty_num rfl rfl rfl rfl ?_
          | refine AW_load rfl ty_row rfl rfl rfl rfl ?_
          | refine AW_store ty_num rfl rfl rfl rfl rfl rfl rfl ?_
          | refine AW_store ty_row rfl rfl rfl rfl rfl rfl rfl ?_
          | refine AW_extract rfl rfl rfl ?_
          | refine AW_alloc rfl tz_num ?_
          | refine AW_alloc rfl tz_row ?_
          | refine AW_box rfl rfl (row := true) rfl (fun h => by cases h) rfl ?_
          | refine AW_not rfl rfl ?_
          | refine AW_build rfl tb_num rfl ?_
          | refine AW_build rfl tb_row rfl ?_
          | refine AW_call rfl rfl (by first | exact ct_right _ (Nat.le_of_ble_eq_true rfl) | exact ct_gzeroT _ (by assumption) | exact ct_gzeroF _ (by assumption) | exact ct_gsize _ (by assumption) | exact ct_run _ _ _ ha hb | exact ct_Neg _ hx0) ?_
          | refine AW_ints rfl tu_nums ti_num ti_size ti_zero rfl rfl rfl (by first | exact .cons _ _ _ _ _ rfl (.cons _ _ _ _ _ rfl (.nil _)) | exact .cons _ _ _ _ _ rfl (.cons _ _ _ _ _ rfl (.cons _ _ _ _ _ rfl (.cons _ _ _ _ _ rfl (.nil _)))) | exact .cons _ _ _ _ _ rfl (.cons _ _ _ _ _ rfl (.cons _ _ _ _ _ rfl (.nil _))) | exact .cons _ _ _ _ _ rfl (.cons _ _ _ _ _ rfl (.cons _ _ _ _ _ rfl (.cons _ _ _ _ _ rfl (.cons _ _ _ _ _ rfl (.nil _)))))) ?_
          | refine AW_load rfl ty_bool rfl rfl rfl rfl ?_ | refine AW_fieldAddr rfl tf_neg rfl rfl ?_ | refine AW_fieldAddr rfl tf_row0 rfl rfl ?_ | refine AW_fieldAddr rfl tf_row1 rfl rfl ?_ | refine AW_arrayAt rfl Tryz.underlying75 ts_num rfl rfl rfl rfl ?_
          | refine AW_pickT rfl rfl rfl ?_
          | refine AW_pickF rfl rfl rfl ?_
          | refine AW_skip rfl rfl rfl rfl ?_
          | refine AW_pickTg rfl rfl rfl rfl rfl rfl ?_
          | refine AW_pickFg rfl rfl rfl rfl rfl rfl ?_
          | refine AW_moveg rfl rfl rfl rfl rfl ?_
          | refine AW_notg rfl rfl rfl rfl rfl ?_
          | refine AW_eqg rfl rfl rfl rfl rfl rfl ?_
          | refine AW_eq rfl rfl rfl ?_
          | refine AW_loadg rfl rfl rfl rfl ty_num rfl rfl rfl rfl ?_
          | refine AW_loadg rfl rfl rfl rfl ty_row rfl rfl rfl rfl ?_
          | refine AW_callg rfl rfl rfl rfl rfl (by first | exact ct_right _ (Nat.le_of_ble_eq_true rfl) | exact ct_gzeroT _ (by assumption) | exact ct_gzeroF _ (by assumption) | exact ct_gsize _ (by assumption) | exact ct_run _ _ _ ha hb | exact ct_Neg _ hx0) ?_
          | refine AW_nil (fun (h : false = true) => by cases h) ?_
          | refine AW_nil (fun (_ : true = true) => by kernel_rfl) ?_
          | refine Wp_block ?_
          | refine Wp_skip ?_
          | refine Wp_exit ?_
          | refine Wp_ret ?_
        exact le_of ⟨rfl, rfl, rfl, rfl, rfl, rfl, rfl, rfl, trivial⟩ ⟨rfl, rfl, rfl, rfl, rfl, rfl, rfl, rfl, trivial⟩ rfl
      · have hX : eX a b = (eucR true a.natAbs b.natAbs).2.1 := by unfold eX; rw [if_neg (of_decide_eq_false hc)]
        rw [← hgz, hX]
        repeat first
          | refine Wp_seq ?_
          | refine Wp_region tm_mixed ?_
          | refine AW_move rfl rfl ?_
          | refine AW_assign rfl rfl ?_
          | refine AW_load rfl ty_num rfl rfl rfl rfl ?_
          | refine AW_load rfl ty_row rfl rfl rfl rfl ?_
          | refine AW_store ty_num rfl rfl rfl rfl rfl rfl rfl ?_
          | refine AW_store ty_row rfl rfl rfl rfl rfl rfl rfl ?_
          | refine AW_extract rfl rfl rfl ?_
          | refine AW_alloc rfl tz_num ?_
          | refine AW_alloc rfl tz_row ?_
          | refine AW_box rfl rfl (row := true) rfl (fun h => by cases h) rfl ?_
          | refine AW_not rfl rfl ?_
          | refine AW_build rfl tb_num rfl ?_
          | refine AW_build rfl tb_row rfl ?_
          | refine AW_call rfl rfl (by first | exact ct_right _ (Nat.le_of_ble_eq_true rfl) | exact ct_gzeroT _ (by assumption) | exact ct_gzeroF _ (by assumption) | exact ct_gsize _ (by assumption) | exact ct_run _ _ _ ha hb) ?_
          | refine AW_ints rfl tu_nums ti_num ti_size ti_zero rfl rfl rfl (by first | exact .cons _ _ _ _ _ rfl (.cons _ _ _ _ _ rfl (.nil _)) | exact .cons _ _ _ _ _ rfl (.cons _ _ _ _ _ rfl (.cons _ _ _ _ _ rfl (.cons _ _ _ _ _ rfl (.nil _)))) | exact .cons _ _ _ _ _ rfl (.cons _ _ _ _ _ rfl (.cons _ _ _ _ _ rfl (.nil _))) | exact .cons _ _ _ _ _ rfl (.cons _ _ _ _ _ rfl (.cons _ _ _ _ _ rfl (.cons _ _ _ _ _ rfl (.cons _ _ _ _ _ rfl (.nil _)))))) ?_
          | refine AW_load rfl ty_bool rfl rfl rfl rfl ?_ | refine AW_fieldAddr rfl tf_neg rfl rfl ?_ | refine AW_fieldAddr rfl tf_row0 rfl rfl ?_ | refine AW_fieldAddr rfl tf_row1 rfl rfl ?_ | refine AW_arrayAt rfl Tryz.underlying75 ts_num rfl rfl rfl rfl ?_
          | refine AW_pickT rfl rfl rfl ?_
          | refine AW_pickF rfl rfl rfl ?_
          | refine AW_skip rfl rfl rfl rfl ?_
          | refine AW_pickTg rfl rfl rfl rfl rfl rfl ?_
          | refine AW_pickFg rfl rfl rfl rfl rfl rfl ?_
          | refine AW_moveg rfl rfl rfl rfl rfl ?_
          | refine AW_notg rfl rfl rfl rfl rfl ?_
          | refine AW_eqg rfl rfl rfl rfl rfl rfl ?_
          | refine AW_eq rfl rfl rfl ?_
          | refine AW_loadg rfl rfl rfl rfl ty_num rfl rfl rfl rfl ?_
          | refine AW_loadg rfl rfl rfl rfl ty_row rfl rfl rfl rfl ?_
          | refine AW_callg rfl rfl rfl rfl rfl (by first | exact ct_right _ (Nat.le_of_ble_eq_true rfl) | exact ct_gzeroT _ (by assumption) | exact ct_gzeroF _ (by assumption) | exact ct_gsize _ (by assumption) | exact ct_run _ _ _ ha hb) ?_
          | refine AW_nil (fun (h : false = true) => by cases h) ?_
          | refine AW_nil (fun (_ : true = true) => by kernel_rfl) ?_
          | refine Wp_block ?_
          | refine Wp_skip ?_
          | refine Wp_exit ?_
          | refine Wp_ret ?_
        exact le_of ⟨rfl, rfl, rfl, rfl, rfl, rfl, rfl, rfl, trivial⟩ ⟨rfl, rfl, rfl, rfl, rfl, rfl, rfl, rfl, trivial⟩ rfl
    · intro s' hs'
      refine Wp_le hs' ?_
      repeat first
        | refine Wp_seq ?_
        | refine Wp_region tm_mixed ?_
        | refine AW_move rfl rfl ?_
        | refine AW_assign rfl rfl ?_
        | refine AW_load rfl ty_num rfl rfl rfl rfl ?_
        | refine AW_load rfl ty_row rfl rfl rfl rfl ?_
        | refine AW_store ty_num rfl rfl rfl rfl rfl rfl rfl ?_
        | refine AW_store ty_row rfl rfl rfl rfl rfl rfl rfl ?_
        | refine AW_extract rfl rfl rfl ?_
        | refine AW_alloc rfl tz_num ?_
        | refine AW_alloc rfl tz_row ?_
        | refine AW_box rfl rfl (row := true) rfl (fun h => by cases h) rfl ?_
        | refine AW_not rfl rfl ?_
        | refine AW_build rfl tb_num rfl ?_
        | refine AW_build rfl tb_row rfl ?_
        | refine AW_call rfl rfl (by first | exact ct_right _ (Nat.le_of_ble_eq_true rfl) | exact ct_gzeroT _ (by assumption) | exact ct_gzeroF _ (by assumption) | exact ct_gsize _ (by assumption) | exact ct_run _ _ _ ha hb) ?_
        | refine AW_ints rfl tu_nums ti_num ti_size ti_zero rfl rfl rfl (by first | exact .cons _ _ _ _ _ rfl (.cons _ _ _ _ _ rfl (.nil _)) | exact .cons _ _ _ _ _ rfl (.cons _ _ _ _ _ rfl (.cons _ _ _ _ _ rfl (.cons _ _ _ _ _ rfl (.nil _)))) | exact .cons _ _ _ _ _ rfl (.cons _ _ _ _ _ rfl (.cons _ _ _ _ _ rfl (.nil _))) | exact .cons _ _ _ _ _ rfl (.cons _ _ _ _ _ rfl (.cons _ _ _ _ _ rfl (.cons _ _ _ _ _ rfl (.cons _ _ _ _ _ rfl (.nil _)))))) ?_
        | refine AW_load rfl ty_bool rfl rfl rfl rfl ?_ | refine AW_fieldAddr rfl tf_neg rfl rfl ?_ | refine AW_fieldAddr rfl tf_row0 rfl rfl ?_ | refine AW_fieldAddr rfl tf_row1 rfl rfl ?_ | refine AW_arrayAt rfl Tryz.underlying75 ts_num rfl rfl rfl rfl ?_
        | refine AW_pickT rfl rfl rfl ?_
        | refine AW_pickF rfl rfl rfl ?_
        | refine AW_skip rfl rfl rfl rfl ?_
        | refine AW_pickTg rfl rfl rfl rfl rfl rfl ?_
        | refine AW_pickFg rfl rfl rfl rfl rfl rfl ?_
        | refine AW_moveg rfl rfl rfl rfl rfl ?_
        | refine AW_notg rfl rfl rfl rfl rfl ?_
        | refine AW_eqg rfl rfl rfl rfl rfl rfl ?_
        | refine AW_eq rfl rfl rfl ?_
        | refine AW_loadg rfl rfl rfl rfl ty_num rfl rfl rfl rfl ?_
        | refine AW_loadg rfl rfl rfl rfl ty_row rfl rfl rfl rfl ?_
        | refine AW_callg rfl rfl rfl rfl rfl (by first | exact ct_right _ (Nat.le_of_ble_eq_true rfl) | exact ct_gzeroT _ (by assumption) | exact ct_gzeroF _ (by assumption) | exact ct_gsize _ (by assumption) | exact ct_run _ _ _ ha hb) ?_
        | refine AW_nil (fun (h : false = true) => by cases h) ?_
        | refine AW_nil (fun (_ : true = true) => by kernel_rfl) ?_
        | refine Wp_block ?_
        | refine Wp_skip ?_
        | refine Wp_exit ?_
        | refine Wp_ret ?_
      refine Wp_to (fun s' => Le s' ⟨[(2, .val (.one (.ptr 0 0))), (3, .val (.one (.ptr 1 0))), (4, .val (.one (.ptr 2 0))), (5, .val (.one (.ptr 3 0))), (6, .val (.one (.ptr 4 0))), (9, .val (.one (.ptr 6 0))), (10, .val (.one (.ptr 7 0))), (11, .val (.one (.ptr 8 0)))],
      [(0, 24, [.b (rawOf a).1, .st (magP (rawOf a).2)]), (1, 24, [.b (rawOf b).1, .st (magP (rawOf b).2)]), (2, 24, [.b false, .st (magP [])]), (3, 24, [.b false, .st (magP [])]), (4, 24, [.b false, .st (magP [])]),
       (6, 24, [.b (rawOf (gcdZ a b)).1, .st (magP (rawOf (gcdZ a b)).2)]), (7, 24, [.b (rawOf (eX a b)).1, .st (magP (rawOf (eX a b)).2)]), (8, 24, [.b (rawOf (eY a b)).1, .st (magP (rawOf (eY a b)).2)])], 9⟩) ?_ ?_
      · refine Wp_cond rfl (fun hc => ?_) (fun hc => ?_)
        · have hY : eY a b = -(eucR true a.natAbs b.natAbs).2.2 := by unfold eY; rw [if_pos (of_decide_eq_true hc)]
          rw [hY]
          repeat first
            | refine Wp_seq ?_
            | refine Wp_region tm_mixed ?_
            | refine AW_move rfl rfl ?_
            | refine AW_assign rfl rfl ?_
            | refine AW_load rfl ty_num rfl rfl rfl rfl ?_
            | refine AW_load rfl ty_row rfl rfl rfl rfl ?_
            | refine AW_store ty_num rfl rfl rfl rfl rfl rfl rfl ?_
            | refine AW_store ty_row rfl rfl rfl rfl rfl rfl rfl ?_
            | refine AW_extract rfl rfl rfl ?_
            | refine AW_alloc rfl tz_num ?_
            | refine AW_alloc rfl tz_row ?_
            | refine AW_box rfl rfl (row := true) rfl (fun h => by cases h) rfl ?_
            | refine AW_not rfl rfl ?_
            | refine AW_build rfl tb_num rfl ?_
            | refine AW_build rfl tb_row rfl ?_
            | refine AW_call rfl rfl (by first | exact ct_right _ (Nat.le_of_ble_eq_true rfl) | exact ct_gzeroT _ (by assumption) | exact ct_gzeroF _ (by assumption) | exact ct_gsize _ (by assumption) | exact ct_run _ _ _ ha hb | exact ct_Neg _ hy0) ?_
            | refine AW_ints rfl tu_nums ti_num ti_size ti_zero rfl rfl rfl (by first | exact .cons _ _ _ _ _ rfl (.cons _ _ _ _ _ rfl (.nil _)) | exact .cons _ _ _ _ _ rfl (.cons _ _ _ _ _ rfl (.cons _ _ _ _ _ rfl (.cons _ _ _ _ _ rfl (.nil _)))) | exact .cons _ _ _ _ _ rfl (.cons _ _ _ _ _ rfl (.cons _ _ _ _ _ rfl (.nil _))) | exact .cons _ _ _ _ _ rfl (.cons _ _ _ _ _ rfl (.cons _ _ _ _ _ rfl (.cons _ _ _ _ _ rfl (.cons _ _ _ _ _ rfl (.nil _)))))) ?_
            | refine AW_load rfl ty_bool rfl rfl rfl rfl ?_ | refine AW_fieldAddr rfl tf_neg rfl rfl ?_ | refine AW_fieldAddr rfl tf_row0 rfl rfl ?_ | refine AW_fieldAddr rfl tf_row1 rfl rfl ?_ | refine AW_arrayAt rfl Tryz.underlying75 ts_num rfl rfl rfl rfl ?_
            | refine AW_pickT rfl rfl rfl ?_
            | refine AW_pickF rfl rfl rfl ?_
            | refine AW_skip rfl rfl rfl rfl ?_
            | refine AW_pickTg rfl rfl rfl rfl rfl rfl ?_
            | refine AW_pickFg rfl rfl rfl rfl rfl rfl ?_
            | refine AW_moveg rfl rfl rfl rfl rfl ?_
            | refine AW_notg rfl rfl rfl rfl rfl ?_
            | refine AW_eqg rfl rfl rfl rfl rfl rfl ?_
            | refine AW_eq rfl rfl rfl ?_
            | refine AW_loadg rfl rfl rfl rfl ty_num rfl rfl rfl rfl ?_
            | refine AW_loadg rfl rfl rfl rfl ty_row rfl rfl rfl rfl ?_
            | refine AW_callg rfl rfl rfl rfl rfl (by first | exact ct_right _ (Nat.le_of_ble_eq_true rfl) | exact ct_gzeroT _ (by assumption) | exact ct_gzeroF _ (by assumption) | exact ct_gsize _ (by assumption) | exact ct_run _ _ _ ha hb | exact ct_Neg _ hy0) ?_
            | refine AW_nil (fun (h : false = true) => by cases h) ?_
            | refine AW_nil (fun (_ : true = true) => by kernel_rfl) ?_
            | refine Wp_block ?_
            | refine Wp_skip ?_
            | refine Wp_exit ?_
            | refine Wp_ret ?_
          exact le_of ⟨rfl, rfl, rfl, rfl, rfl, rfl, rfl, rfl, trivial⟩ ⟨rfl, rfl, rfl, rfl, rfl, rfl, rfl, rfl, trivial⟩ rfl
        · have hY : eY a b = (eucR true a.natAbs b.natAbs).2.2 := by unfold eY; rw [if_neg (of_decide_eq_false hc)]
          rw [hY]
          repeat first
            | refine Wp_seq ?_
            | refine Wp_region tm_mixed ?_
            | refine AW_move rfl rfl ?_
            | refine AW_assign rfl rfl ?_
            | refine AW_load rfl ty_num rfl rfl rfl rfl ?_
            | refine AW_load rfl ty_row rfl rfl rfl rfl ?_
            | refine AW_store ty_num rfl rfl rfl rfl rfl rfl rfl ?_
            | refine AW_store ty_row rfl rfl rfl rfl rfl rfl rfl ?_
            | refine AW_extract rfl rfl rfl ?_
            | refine AW_alloc rfl tz_num ?_
            | refine AW_alloc rfl tz_row ?_
            | refine AW_box rfl rfl (row := true) rfl (fun h => by cases h) rfl ?_
            | refine AW_not rfl rfl ?_
            | refine AW_build rfl tb_num rfl ?_
            | refine AW_build rfl tb_row rfl ?_
            | refine AW_call rfl rfl (by first | exact ct_right _ (Nat.le_of_ble_eq_true rfl) | exact ct_gzeroT _ (by assumption) | exact ct_gzeroF _ (by assumption) | exact ct_gsize _ (by assumption) | exact ct_run _ _ _ ha hb) ?_
            | refine AW_ints rfl tu_nums ti_num ti_size ti_zero rfl rfl rfl (by first | exact .cons _ _ _ _ _ rfl (.cons _ _ _ _ _ rfl (.nil _)) | exact .cons _ _ _ _ _ rfl (.cons _ _ _ _ _ rfl (.cons _ _ _ _ _ rfl (.cons _ _ _ _ _ rfl (.nil _)))) | exact .cons _ _ _ _ _ rfl (.cons _ _ _ _ _ rfl (.cons _ _ _ _ _ rfl (.nil _))) | exact .cons _ _ _ _ _ rfl (.cons _ _ _ _ _ rfl (.cons _ _ _ _ _ rfl (.cons _ _ _ _ _ rfl (.cons _ _ _ _ _ rfl (.nil _)))))) ?_
            | refine AW_load rfl ty_bool rfl rfl rfl rfl ?_ | refine AW_fieldAddr rfl tf_neg rfl rfl ?_ | refine AW_fieldAddr rfl tf_row0 rfl rfl ?_ | refine AW_fieldAddr rfl tf_row1 rfl rfl ?_ | refine AW_arrayAt rfl Tryz.underlying75 ts_num rfl rfl rfl rfl ?_
            | refine AW_pickT rfl rfl rfl ?_
            | refine AW_pickF rfl rfl rfl ?_
            | refine AW_skip rfl rfl rfl rfl ?_
            | refine AW_pickTg rfl rfl rfl rfl rfl rfl ?_
            | refine AW_pickFg rfl rfl rfl rfl rfl rfl ?_
            | refine AW_moveg rfl rfl rfl rfl rfl ?_
            | refine AW_notg rfl rfl rfl rfl rfl ?_
            | refine AW_eqg rfl rfl rfl rfl rfl rfl ?_
            | refine AW_eq rfl rfl rfl ?_
            | refine AW_loadg rfl rfl rfl rfl ty_num rfl rfl rfl rfl ?_
            | refine AW_loadg rfl rfl rfl rfl ty_row rfl rfl rfl rfl ?_
            | refine AW_callg rfl rfl rfl rfl rfl (by first | exact ct_right _ (Nat.le_of_ble_eq_true rfl) | exact ct_gzeroT _ (by assumption) | exact ct_gzeroF _ (by assumption) | exact ct_gsize _ (by assumption) | exact ct_run _ _ _ ha hb) ?_
            | refine AW_nil (fun (h : false = true) => by cases h) ?_
            | refine AW_nil (fun (_ : true = true) => by kernel_rfl) ?_
            | refine Wp_block ?_
            | refine Wp_skip ?_
            | refine Wp_exit ?_
            | refine Wp_ret ?_
          exact le_of ⟨rfl, rfl, rfl, rfl, rfl, rfl, rfl, rfl, trivial⟩ ⟨rfl, rfl, rfl, rfl, rfl, rfl, rfl, rfl, trivial⟩ rfl
      · intro s'' hs''
        refine Wp_le hs'' ?_
        by_cases hg0 : gcdZ a b = 0
        · have h0 : a = 0 ∧ b = 0 := by
            have h1 : Nat.gcd a.natAbs b.natAbs = 0 := by have : ((Nat.gcd a.natAbs b.natAbs : Nat) : Int) = 0 := hg0; omega
            rw [Nat.gcd_eq_zero_iff] at h1
            omega
          obtain ⟨rfl, rfl⟩ := h0
          repeat first
            | refine Wp_seq ?_
            | refine Wp_region tm_mixed ?_
            | refine AW_move rfl rfl ?_
            | refine AW_assign rfl rfl ?_
            | refine AW_load rfl ty_num rfl rfl rfl rfl ?_
            | refine AW_load rfl ty_row rfl rfl rfl rfl ?_
            | refine AW_store ty_num rfl rfl rfl rfl rfl rfl rfl ?_
            | refine AW_store ty_row rfl rfl rfl rfl rfl rfl rfl ?_
            | refine AW_extract rfl rfl rfl ?_
            | refine AW_alloc rfl tz_num ?_
            | refine AW_alloc rfl tz_row ?_
            | refine AW_box rfl rfl (row := true) rfl (fun h => by cases h) rfl ?_
            | refine AW_not rfl rfl ?_
            | refine AW_build rfl tb_num rfl ?_
            | refine AW_build rfl tb_row rfl ?_
            | refine AW_call rfl rfl (by first | exact ct_right _ (Nat.le_of_ble_eq_true rfl) | exact ct_gzeroT _ (by assumption) | exact ct_gzeroF _ (by assumption) | exact ct_gsize _ (by assumption) | exact ct_run _ _ _ ha hb) ?_
            | refine AW_ints rfl tu_nums ti_num ti_size ti_zero rfl rfl rfl (by first | exact .cons _ _ _ _ _ rfl (.cons _ _ _ _ _ rfl (.nil _)) | exact .cons _ _ _ _ _ rfl (.cons _ _ _ _ _ rfl (.cons _ _ _ _ _ rfl (.cons _ _ _ _ _ rfl (.nil _)))) | exact .cons _ _ _ _ _ rfl (.cons _ _ _ _ _ rfl (.cons _ _ _ _ _ rfl (.nil _))) | exact .cons _ _ _ _ _ rfl (.cons _ _ _ _ _ rfl (.cons _ _ _ _ _ rfl (.cons _ _ _ _ _ rfl (.cons _ _ _ _ _ rfl (.nil _)))))) ?_
            | refine AW_load rfl ty_bool rfl rfl rfl rfl ?_ | refine AW_fieldAddr rfl tf_neg rfl rfl ?_ | refine AW_fieldAddr rfl tf_row0 rfl rfl ?_ | refine AW_fieldAddr rfl tf_row1 rfl rfl ?_ | refine AW_arrayAt rfl Tryz.underlying75 ts_num rfl rfl rfl rfl ?_
            | refine AW_pickT rfl rfl rfl ?_
            | refine AW_pickF rfl rfl rfl ?_
            | refine AW_skip rfl rfl rfl rfl ?_
            | refine AW_pickTg rfl rfl rfl rfl rfl rfl ?_
            | refine AW_pickFg rfl rfl rfl rfl rfl rfl ?_
            | refine AW_moveg rfl rfl rfl rfl rfl ?_
            | refine AW_notg rfl rfl rfl rfl rfl ?_
            | refine AW_eqg rfl rfl rfl rfl rfl rfl ?_
            | refine AW_eq rfl rfl rfl ?_
            | refine AW_loadg rfl rfl rfl rfl ty_num rfl rfl rfl rfl ?_
            | refine AW_loadg rfl rfl rfl rfl ty_row rfl rfl rfl rfl ?_
            | refine AW_callg rfl rfl rfl rfl rfl (by first | exact ct_right _ (Nat.le_of_ble_eq_true rfl) | exact ct_gzeroT _ (by assumption) | exact ct_gzeroF _ (by assumption) | exact ct_gsize _ (by assumption) | exact ct_run _ _ _ ha hb) ?_
            | refine AW_nil (fun (h : false = true) => by cases h) ?_
            | refine AW_nil (fun (_ : true = true) => by kernel_rfl) ?_
            | refine Wp_block ?_
            | refine Wp_skip ?_
            | refine Wp_exit ?_
            | refine Wp_ret ?_
          refine Wp_condT rfl ?_
          repeat first
            | refine Wp_seq ?_
            | refine Wp_region tm_mixed ?_
            | refine AW_move rfl rfl ?_
            | refine AW_assign rfl rfl ?_
            | refine AW_load rfl ty_num rfl rfl rfl rfl ?_
            | refine AW_load rfl ty_row rfl rfl rfl rfl ?_
            | refine AW_store ty_num rfl rfl rfl rfl rfl rfl rfl ?_
            | refine AW_store ty_row rfl rfl rfl rfl rfl rfl rfl ?_
            | refine AW_extract rfl rfl rfl ?_
            | refine AW_alloc rfl tz_num ?_
            | refine AW_alloc rfl tz_row ?_
            | refine AW_box rfl rfl (row := true) rfl (fun h => by cases h) rfl ?_
            | refine AW_not rfl rfl ?_
            | refine AW_build rfl tb_num rfl ?_
            | refine AW_build rfl tb_row rfl ?_
            | refine AW_call rfl rfl (by first | exact ct_right _ (Nat.le_of_ble_eq_true rfl) | exact ct_gzeroT _ (by assumption) | exact ct_gzeroF _ (by assumption) | exact ct_gsize _ (by assumption) | exact ct_run _ _ _ ha hb) ?_
            | refine AW_ints rfl tu_nums ti_num ti_size ti_zero rfl rfl rfl (by first | exact .cons _ _ _ _ _ rfl (.cons _ _ _ _ _ rfl (.nil _)) | exact .cons _ _ _ _ _ rfl (.cons _ _ _ _ _ rfl (.cons _ _ _ _ _ rfl (.cons _ _ _ _ _ rfl (.nil _)))) | exact .cons _ _ _ _ _ rfl (.cons _ _ _ _ _ rfl (.cons _ _ _ _ _ rfl (.nil _))) | exact .cons _ _ _ _ _ rfl (.cons _ _ _ _ _ rfl (.cons _ _ _ _ _ rfl (.cons _ _ _ _ _ rfl (.cons _ _ _ _ _ rfl (.nil _)))))) ?_
            | refine AW_load rfl ty_bool rfl rfl rfl rfl ?_ | refine AW_fieldAddr rfl tf_neg rfl rfl ?_ | refine AW_fieldAddr rfl tf_row0 rfl rfl ?_ | refine AW_fieldAddr rfl tf_row1 rfl rfl ?_ | refine AW_arrayAt rfl Tryz.underlying75 ts_num rfl rfl rfl rfl ?_
            | refine AW_pickT rfl rfl rfl ?_
            | refine AW_pickF rfl rfl rfl ?_
            | refine AW_skip rfl rfl rfl rfl ?_
            | refine AW_pickTg rfl rfl rfl rfl rfl rfl ?_
            | refine AW_pickFg rfl rfl rfl rfl rfl rfl ?_
            | refine AW_moveg rfl rfl rfl rfl rfl ?_
            | refine AW_notg rfl rfl rfl rfl rfl ?_
            | refine AW_eqg rfl rfl rfl rfl rfl rfl ?_
            | refine AW_eq rfl rfl rfl ?_
            | refine AW_loadg rfl rfl rfl rfl ty_num rfl rfl rfl rfl ?_
            | refine AW_loadg rfl rfl rfl rfl ty_row rfl rfl rfl rfl ?_
            | refine AW_callg rfl rfl rfl rfl rfl (by first | exact ct_right _ (Nat.le_of_ble_eq_true rfl) | exact ct_gzeroT _ (by assumption) | exact ct_gzeroF _ (by assumption) | exact ct_gsize _ (by assumption) | exact ct_run _ _ _ ha hb) ?_
            | refine AW_nil (fun (h : false = true) => by cases h) ?_
            | refine AW_nil (fun (_ : true = true) => by kernel_rfl) ?_
            | refine Wp_block ?_
            | refine Wp_skip ?_
            | refine Wp_exit ?_
            | refine Wp_ret ?_
          exact ⟨.inr rfl, _, .cell _ _ _ _ _ _ _ _ _ _ _ ty_num rfl rfl rfl (.cell _ _ _ _ _ _ _ _ _ _ _ ty_num rfl rfl rfl (.cell _ _ _ _ _ _ _ _ _ _ _ ty_num rfl rfl rfl (.tmp _ _ _ _ rfl .nil))), by
            rw [hg0, show bzX 0 0 = 0 from rfl, show bzY 0 0 = 0 from rfl, zZ_zero]; rfl⟩
        · by_cases hb0 : b = 0
          · subst hb0
            have hX : eX a 0 = bzX a 0 := by
              unfold eX bzX eucR
              rw [if_pos rfl, show (0 : Int).natAbs = 0 from rfl, euc_zero]
              have : a ≠ 0 := fun e => hg0 (by subst e; rfl)
              by_cases h : a < 0
              · rw [if_pos h, Int.sign_eq_neg_one_of_neg h]
              · rw [if_neg h, Int.sign_eq_one_of_pos (by omega)]
            rw [← hX]
            have hz0 : (0 : Int) = 0 := rfl
            repeat first
              | refine Wp_seq ?_
              | refine Wp_region tm_mixed ?_
              | refine AW_move rfl rfl ?_
              | refine AW_assign rfl rfl ?_
              | refine AW_load rfl ty_num rfl rfl rfl rfl ?_
              | refine AW_load rfl ty_row rfl rfl rfl rfl ?_
              | refine AW_store ty_num rfl rfl rfl rfl rfl rfl rfl ?_
              | refine AW_store ty_row rfl rfl rfl rfl rfl rfl rfl ?_
              | refine AW_extract rfl rfl rfl ?_
              | refine AW_alloc rfl tz_num ?_
              | refine AW_alloc rfl tz_row ?_
              | refine AW_box rfl rfl (row := true) rfl (fun h => by cases h) rfl ?_
              | refine AW_not rfl rfl ?_
              | refine AW_build rfl tb_num rfl ?_
              | refine AW_build rfl tb_row rfl ?_
              | refine AW_call rfl rfl (by first | exact ct_right _ (Nat.le_of_ble_eq_true rfl) | exact ct_gzeroT _ (by assumption) | exact ct_gzeroF _ (by assumption) | exact ct_gsize _ (by assumption) | exact ct_run _ _ _ ha hb) ?_
              | refine AW_ints rfl tu_nums ti_num ti_size ti_zero rfl rfl rfl (by first | exact .cons _ _ _ _ _ rfl (.cons _ _ _ _ _ rfl (.nil _)) | exact .cons _ _ _ _ _ rfl (.cons _ _ _ _ _ rfl (.cons _ _ _ _ _ rfl (.cons _ _ _ _ _ rfl (.nil _)))) | exact .cons _ _ _ _ _ rfl (.cons _ _ _ _ _ rfl (.cons _ _ _ _ _ rfl (.nil _))) | exact .cons _ _ _ _ _ rfl (.cons _ _ _ _ _ rfl (.cons _ _ _ _ _ rfl (.cons _ _ _ _ _ rfl (.cons _ _ _ _ _ rfl (.nil _)))))) ?_
              | refine AW_load rfl ty_bool rfl rfl rfl rfl ?_ | refine AW_fieldAddr rfl tf_neg rfl rfl ?_ | refine AW_fieldAddr rfl tf_row0 rfl rfl ?_ | refine AW_fieldAddr rfl tf_row1 rfl rfl ?_ | refine AW_arrayAt rfl Tryz.underlying75 ts_num rfl rfl rfl rfl ?_
              | refine AW_pickT rfl rfl rfl ?_
              | refine AW_pickF rfl rfl rfl ?_
              | refine AW_skip rfl rfl rfl rfl ?_
              | refine AW_pickTg rfl rfl rfl rfl rfl rfl ?_
              | refine AW_pickFg rfl rfl rfl rfl rfl rfl ?_
              | refine AW_moveg rfl rfl rfl rfl rfl ?_
              | refine AW_notg rfl rfl rfl rfl rfl ?_
              | refine AW_eqg rfl rfl rfl rfl rfl rfl ?_
              | refine AW_eq rfl rfl rfl ?_
              | refine AW_loadg rfl rfl rfl rfl ty_num rfl rfl rfl rfl ?_
              | refine AW_loadg rfl rfl rfl rfl ty_row rfl rfl rfl rfl ?_
              | refine AW_callg rfl rfl rfl rfl rfl (by first | exact ct_right _ (Nat.le_of_ble_eq_true rfl) | exact ct_gzeroT _ (by assumption) | exact ct_gzeroF _ (by assumption) | exact ct_gsize _ (by assumption) | exact ct_run _ _ _ ha hb) ?_
              | refine AW_nil (fun (h : false = true) => by cases h) ?_
              | refine AW_nil (fun (_ : true = true) => by kernel_rfl) ?_
              | refine Wp_block ?_
              | refine Wp_skip ?_
              | refine Wp_exit ?_
              | refine Wp_ret ?_
            refine Wp_condF rfl ?_
            repeat first
              | refine Wp_seq ?_
              | refine Wp_region tm_mixed ?_
              | refine AW_move rfl rfl ?_
              | refine AW_assign rfl rfl ?_
              | refine AW_load rfl ty_num rfl rfl rfl rfl ?_
              | refine AW_load rfl ty_row rfl rfl rfl rfl ?_
              | refine AW_store ty_num rfl rfl rfl rfl rfl rfl rfl ?_
              | refine AW_store ty_row rfl rfl rfl rfl rfl rfl rfl ?_
              | refine AW_extract rfl rfl rfl ?_
              | refine AW_alloc rfl tz_num ?_
              | refine AW_alloc rfl tz_row ?_
              | refine AW_box rfl rfl (row := true) rfl (fun h => by cases h) rfl ?_
              | refine AW_not rfl rfl ?_
              | refine AW_build rfl tb_num rfl ?_
              | refine AW_build rfl tb_row rfl ?_
              | refine AW_call rfl rfl (by first | exact ct_right _ (Nat.le_of_ble_eq_true rfl) | exact ct_gzeroT _ (by assumption) | exact ct_gzeroF _ (by assumption) | exact ct_gsize _ (by assumption) | exact ct_run _ _ _ ha hb) ?_
              | refine AW_ints rfl tu_nums ti_num ti_size ti_zero rfl rfl rfl (by first | exact .cons _ _ _ _ _ rfl (.cons _ _ _ _ _ rfl (.nil _)) | exact .cons _ _ _ _ _ rfl (.cons _ _ _ _ _ rfl (.cons _ _ _ _ _ rfl (.cons _ _ _ _ _ rfl (.nil _)))) | exact .cons _ _ _ _ _ rfl (.cons _ _ _ _ _ rfl (.cons _ _ _ _ _ rfl (.nil _))) | exact .cons _ _ _ _ _ rfl (.cons _ _ _ _ _ rfl (.cons _ _ _ _ _ rfl (.cons _ _ _ _ _ rfl (.cons _ _ _ _ _ rfl (.nil _)))))) ?_
              | refine AW_load rfl ty_bool rfl rfl rfl rfl ?_ | refine AW_fieldAddr rfl tf_neg rfl rfl ?_ | refine AW_fieldAddr rfl tf_row0 rfl rfl ?_ | refine AW_fieldAddr rfl tf_row1 rfl rfl ?_ | refine AW_arrayAt rfl Tryz.underlying75 ts_num rfl rfl rfl rfl ?_
              | refine AW_pickT rfl rfl rfl ?_
              | refine AW_pickF rfl rfl rfl ?_
              | refine AW_skip rfl rfl rfl rfl ?_
              | refine AW_pickTg rfl rfl rfl rfl rfl rfl ?_
              | refine AW_pickFg rfl rfl rfl rfl rfl rfl ?_
              | refine AW_moveg rfl rfl rfl rfl rfl ?_
              | refine AW_notg rfl rfl rfl rfl rfl ?_
              | refine AW_eqg rfl rfl rfl rfl rfl rfl ?_
              | refine AW_eq rfl rfl rfl ?_
              | refine AW_loadg rfl rfl rfl rfl ty_num rfl rfl rfl rfl ?_
              | refine AW_loadg rfl rfl rfl rfl ty_row rfl rfl rfl rfl ?_
              | refine AW_callg rfl rfl rfl rfl rfl (by first | exact ct_right _ (Nat.le_of_ble_eq_true rfl) | exact ct_gzeroT _ (by assumption) | exact ct_gzeroF _ (by assumption) | exact ct_gsize _ (by assumption) | exact ct_run _ _ _ ha hb) ?_
              | refine AW_nil (fun (h : false = true) => by cases h) ?_
              | refine AW_nil (fun (_ : true = true) => by kernel_rfl) ?_
              | refine Wp_block ?_
              | refine Wp_skip ?_
              | refine Wp_exit ?_
              | refine Wp_ret ?_
            refine Wp_condT rfl ?_
            repeat first
              | refine Wp_seq ?_
              | refine Wp_region tm_mixed ?_
              | refine AW_move rfl rfl ?_
              | refine AW_assign rfl rfl ?_
              | refine AW_load rfl ty_num rfl rfl rfl rfl ?_
              | refine AW_load rfl ty_row rfl rfl rfl rfl ?_
              | refine AW_store ty_num rfl rfl rfl rfl rfl rfl rfl ?_
              | refine AW_store ty_row rfl rfl rfl rfl rfl rfl rfl ?_
              | refine AW_extract rfl rfl rfl ?_
              | refine AW_alloc rfl tz_num ?_
              | refine AW_alloc rfl tz_row ?_
              | refine AW_box rfl rfl (row := true) rfl (fun h => by cases h) rfl ?_
              | refine AW_not rfl rfl ?_
              | refine AW_build rfl tb_num rfl ?_
              | refine AW_build rfl tb_row rfl ?_
              | refine AW_call rfl rfl (by first | exact ct_right _ (Nat.le_of_ble_eq_true rfl) | exact ct_gzeroT _ (by assumption) | exact ct_gzeroF _ (by assumption) | exact ct_gsize _ (by assumption) | exact ct_run _ _ _ ha hb) ?_
              | refine AW_ints rfl tu_nums ti_num ti_size ti_zero rfl rfl rfl (by first | exact .cons _ _ _ _ _ rfl (.cons _ _ _ _ _ rfl (.nil _)) | exact .cons _ _ _ _ _ rfl (.cons _ _ _ _ _ rfl (.cons _ _ _ _ _ rfl (.cons _ _ _ _ _ rfl (.nil _)))) | exact .cons _ _ _ _ _ rfl (.cons _ _ _ _ _ rfl (.cons _ _ _ _ _ rfl (.nil _))) | exact .cons _ _ _ _ _ rfl (.cons _ _ _ _ _ rfl (.cons _ _ _ _ _ rfl (.cons _ _ _ _ _ rfl (.cons _ _ _ _ _ rfl (.nil _)))))) ?_
              | refine AW_load rfl ty_bool rfl rfl rfl rfl ?_ | refine AW_fieldAddr rfl tf_neg rfl rfl ?_ | refine AW_fieldAddr rfl tf_row0 rfl rfl ?_ | refine AW_fieldAddr rfl tf_row1 rfl rfl ?_ | refine AW_arrayAt rfl Tryz.underlying75 ts_num rfl rfl rfl rfl ?_
              | refine AW_pickT rfl rfl rfl ?_
              | refine AW_pickF rfl rfl rfl ?_
              | refine AW_skip rfl rfl rfl rfl ?_
              | refine AW_pickTg rfl rfl rfl rfl rfl rfl ?_
              | refine AW_pickFg rfl rfl rfl rfl rfl rfl ?_
              | refine AW_moveg rfl rfl rfl rfl rfl ?_
              | refine AW_notg rfl rfl rfl rfl rfl ?_
              | refine AW_eqg rfl rfl rfl rfl rfl rfl ?_
              | refine AW_eq rfl rfl rfl ?_
              | refine AW_loadg rfl rfl rfl rfl ty_num rfl rfl rfl rfl ?_
              | refine AW_loadg rfl rfl rfl rfl ty_row rfl rfl rfl rfl ?_
              | refine AW_callg rfl rfl rfl rfl rfl (by first | exact ct_right _ (Nat.le_of_ble_eq_true rfl) | exact ct_gzeroT _ (by assumption) | exact ct_gzeroF _ (by assumption) | exact ct_gsize _ (by assumption) | exact ct_run _ _ _ ha hb) ?_
              | refine AW_nil (fun (h : false = true) => by cases h) ?_
              | refine AW_nil (fun (_ : true = true) => by kernel_rfl) ?_
              | refine Wp_block ?_
              | refine Wp_skip ?_
              | refine Wp_exit ?_
              | refine Wp_ret ?_
            exact ⟨.inr rfl, _, .cell _ _ _ _ _ _ _ _ _ _ _ ty_num rfl rfl rfl (.cell _ _ _ _ _ _ _ _ _ _ _ ty_num rfl rfl rfl (.cell _ _ _ _ _ _ _ _ _ _ _ ty_num rfl rfl rfl (.tmp _ _ _ _ rfl .nil))), by
              rw [show bzY a 0 = 0 from rfl, zZ_zero]; rfl⟩
          · have hgn : lc (gcdZ a b).natAbs ≤ 1200 := by unfold gcdZ; rw [Int.natAbs_natCast]; exact Nat.le_trans (gcd_small ha hb) (by decide)
            have kE := ct_Exact0 (b.natAbs : Int) (gcdZ a b) (by rw [Int.natAbs_natCast]; omega) hgn hg0 (by
              show ((b.natAbs % Nat.gcd a.natAbs b.natAbs : Nat) : Int) = 0
              rw [Nat.mod_eq_zero_of_dvd (Nat.gcd_dvd_right _ _)]; rfl)
            rw [show (b.natAbs : Int).tdiv (gcdZ a b) = bM a b from rfl] at kE
            have kF := ct_Exact0 a (gcdZ a b) (by omega) hgn hg0 (Int.tmod_eq_zero_of_dvd (gcdZ_dvd_left a b))
            have hT1 : lc (a.tdiv (gcdZ a b)).natAbs ≤ 4096 := by rw [Int.natAbs_tdiv]; exact Nat.le_trans (lc_mono (Nat.div_le_self _ _)) (by omega)
            have hM1 : lc (bM a b).natAbs ≤ 4096 := Nat.le_trans (lc_mono (bM_le a b)) (by omega)
            have hT2 : lc (bT a b).natAbs ≤ 4096 := Nat.le_trans (bT_lc ha) (by decide)
            repeat first
              | refine Wp_seq ?_
              | refine Wp_region tm_mixed ?_
              | refine AW_move rfl rfl ?_
              | refine AW_assign rfl rfl ?_
              | refine AW_load rfl ty_num rfl rfl rfl rfl ?_
              | refine AW_load rfl ty_row rfl rfl rfl rfl ?_
              | refine AW_store ty_num rfl rfl rfl rfl rfl rfl rfl ?_
              | refine AW_store ty_row rfl rfl rfl rfl rfl rfl rfl ?_
              | refine AW_extract rfl rfl rfl ?_
              | refine AW_alloc rfl tz_num ?_
              | refine AW_alloc rfl tz_row ?_
              | refine AW_box rfl rfl (row := true) rfl (fun h => by cases h) rfl ?_
              | refine AW_not rfl rfl ?_
              | refine AW_build rfl tb_num rfl ?_
              | refine AW_build rfl tb_row rfl ?_
              | refine AW_call rfl rfl (by first | exact ct_right _ (Nat.le_of_ble_eq_true rfl) | exact ct_gzeroT _ (by assumption) | exact ct_gzeroF _ (by assumption) | exact ct_gsize _ (by assumption) | exact ct_run _ _ _ ha hb | exact kE | exact kF) ?_
              | refine AW_ints rfl tu_nums ti_num ti_size ti_zero rfl rfl rfl (by first | exact .cons _ _ _ _ _ rfl (.cons _ _ _ _ _ rfl (.nil _)) | exact .cons _ _ _ _ _ rfl (.cons _ _ _ _ _ rfl (.cons _ _ _ _ _ rfl (.cons _ _ _ _ _ rfl (.nil _)))) | exact .cons _ _ _ _ _ rfl (.cons _ _ _ _ _ rfl (.cons _ _ _ _ _ rfl (.nil _))) | exact .cons _ _ _ _ _ rfl (.cons _ _ _ _ _ rfl (.cons _ _ _ _ _ rfl (.cons _ _ _ _ _ rfl (.cons _ _ _ _ _ rfl (.nil _)))))) ?_
              | refine AW_load rfl ty_bool rfl rfl rfl rfl ?_ | refine AW_fieldAddr rfl tf_neg rfl rfl ?_ | refine AW_fieldAddr rfl tf_row0 rfl rfl ?_ | refine AW_fieldAddr rfl tf_row1 rfl rfl ?_ | refine AW_arrayAt rfl Tryz.underlying75 ts_num rfl rfl rfl rfl ?_
              | refine AW_pickT rfl rfl rfl ?_
              | refine AW_pickF rfl rfl rfl ?_
              | refine AW_skip rfl rfl rfl rfl ?_
              | refine AW_pickTg rfl rfl rfl rfl rfl rfl ?_
              | refine AW_pickFg rfl rfl rfl rfl rfl rfl ?_
              | refine AW_moveg rfl rfl rfl rfl rfl ?_
              | refine AW_notg rfl rfl rfl rfl rfl ?_
              | refine AW_eqg rfl rfl rfl rfl rfl rfl ?_
              | refine AW_eq rfl rfl rfl ?_
              | refine AW_loadg rfl rfl rfl rfl ty_num rfl rfl rfl rfl ?_
              | refine AW_loadg rfl rfl rfl rfl ty_row rfl rfl rfl rfl ?_
              | refine AW_callg rfl rfl rfl rfl rfl (by first | exact ct_right _ (Nat.le_of_ble_eq_true rfl) | exact ct_gzeroT _ (by assumption) | exact ct_gzeroF _ (by assumption) | exact ct_gsize _ (by assumption) | exact ct_run _ _ _ ha hb | exact kE | exact kF) ?_
              | refine AW_nil (fun (h : false = true) => by cases h) ?_
              | refine AW_nil (fun (_ : true = true) => by kernel_rfl) ?_
              | refine Wp_block ?_
              | refine Wp_skip ?_
              | refine Wp_exit ?_
              | refine Wp_ret ?_
            refine Wp_condF rfl ?_
            repeat first
              | refine Wp_seq ?_
              | refine Wp_region tm_mixed ?_
              | refine AW_move rfl rfl ?_
              | refine AW_assign rfl rfl ?_
              | refine AW_load rfl ty_num rfl rfl rfl rfl ?_
              | refine AW_load rfl ty_row rfl rfl rfl rfl ?_
              | refine AW_store ty_num rfl rfl rfl rfl rfl rfl rfl ?_
              | refine AW_store ty_row rfl rfl rfl rfl rfl rfl rfl ?_
              | refine AW_extract rfl rfl rfl ?_
              | refine AW_alloc rfl tz_num ?_
              | refine AW_alloc rfl tz_row ?_
              | refine AW_box rfl rfl (row := true) rfl (fun h => by cases h) rfl ?_
              | refine AW_not rfl rfl ?_
              | refine AW_build rfl tb_num rfl ?_
              | refine AW_build rfl tb_row rfl ?_
              | refine AW_call rfl rfl (by first | exact ct_right _ (Nat.le_of_ble_eq_true rfl) | exact ct_gzeroT _ (by assumption) | exact ct_gzeroF _ (by assumption) | exact ct_gsize _ (by assumption) | exact ct_run _ _ _ ha hb | exact kE | exact kF) ?_
              | refine AW_ints rfl tu_nums ti_num ti_size ti_zero rfl rfl rfl (by first | exact .cons _ _ _ _ _ rfl (.cons _ _ _ _ _ rfl (.nil _)) | exact .cons _ _ _ _ _ rfl (.cons _ _ _ _ _ rfl (.cons _ _ _ _ _ rfl (.cons _ _ _ _ _ rfl (.nil _)))) | exact .cons _ _ _ _ _ rfl (.cons _ _ _ _ _ rfl (.cons _ _ _ _ _ rfl (.nil _))) | exact .cons _ _ _ _ _ rfl (.cons _ _ _ _ _ rfl (.cons _ _ _ _ _ rfl (.cons _ _ _ _ _ rfl (.cons _ _ _ _ _ rfl (.nil _)))))) ?_
              | refine AW_load rfl ty_bool rfl rfl rfl rfl ?_ | refine AW_fieldAddr rfl tf_neg rfl rfl ?_ | refine AW_fieldAddr rfl tf_row0 rfl rfl ?_ | refine AW_fieldAddr rfl tf_row1 rfl rfl ?_ | refine AW_arrayAt rfl Tryz.underlying75 ts_num rfl rfl rfl rfl ?_
              | refine AW_pickT rfl rfl rfl ?_
              | refine AW_pickF rfl rfl rfl ?_
              | refine AW_skip rfl rfl rfl rfl ?_
              | refine AW_pickTg rfl rfl rfl rfl rfl rfl ?_
              | refine AW_pickFg rfl rfl rfl rfl rfl rfl ?_
              | refine AW_moveg rfl rfl rfl rfl rfl ?_
              | refine AW_notg rfl rfl rfl rfl rfl ?_
              | refine AW_eqg rfl rfl rfl rfl rfl rfl ?_
              | refine AW_eq rfl rfl rfl ?_
              | refine AW_loadg rfl rfl rfl rfl ty_num rfl rfl rfl rfl ?_
              | refine AW_loadg rfl rfl rfl rfl ty_row rfl rfl rfl rfl ?_
              | refine AW_callg rfl rfl rfl rfl rfl (by first | exact ct_right _ (Nat.le_of_ble_eq_true rfl) | exact ct_gzeroT _ (by assumption) | exact ct_gzeroF _ (by assumption) | exact ct_gsize _ (by assumption) | exact ct_run _ _ _ ha hb | exact kE | exact kF) ?_
              | refine AW_nil (fun (h : false = true) => by cases h) ?_
              | refine AW_nil (fun (_ : true = true) => by kernel_rfl) ?_
              | refine Wp_block ?_
              | refine Wp_skip ?_
              | refine Wp_exit ?_
              | refine Wp_ret ?_
            refine Wp_condF rfl ?_
            repeat first
              | refine Wp_seq ?_
              | refine Wp_region tm_mixed ?_
              | refine AW_move rfl rfl ?_
              | refine AW_assign rfl rfl ?_
              | refine AW_load rfl ty_num rfl rfl rfl rfl ?_
              | refine AW_load rfl ty_row rfl rfl rfl rfl ?_
              | refine AW_store ty_num rfl rfl rfl rfl rfl rfl rfl ?_
              | refine AW_store ty_row rfl rfl rfl rfl rfl rfl rfl ?_
              | refine AW_extract rfl rfl rfl ?_
              | refine AW_alloc rfl tz_num ?_
              | refine AW_alloc rfl tz_row ?_
              | refine AW_box rfl rfl (row := true) rfl (fun h => by cases h) rfl ?_
              | refine AW_not rfl rfl ?_
              | refine AW_build rfl tb_num rfl ?_
              | refine AW_build rfl tb_row rfl ?_
              | refine AW_call rfl rfl (by first | exact ct_right _ (Nat.le_of_ble_eq_true rfl) | exact ct_gzeroT _ (by assumption) | exact ct_gzeroF _ (by assumption) | exact ct_gsize _ (by assumption) | exact ct_run _ _ _ ha hb | exact kE | exact kF) ?_
              | refine AW_ints rfl tu_nums ti_num ti_size ti_zero rfl rfl rfl (by first | exact .cons _ _ _ _ _ rfl (.cons _ _ _ _ _ rfl (.nil _)) | exact .cons _ _ _ _ _ rfl (.cons _ _ _ _ _ rfl (.cons _ _ _ _ _ rfl (.cons _ _ _ _ _ rfl (.nil _)))) | exact .cons _ _ _ _ _ rfl (.cons _ _ _ _ _ rfl (.cons _ _ _ _ _ rfl (.nil _))) | exact .cons _ _ _ _ _ rfl (.cons _ _ _ _ _ rfl (.cons _ _ _ _ _ rfl (.cons _ _ _ _ _ rfl (.cons _ _ _ _ _ rfl (.nil _)))))) ?_
              | refine AW_load rfl ty_bool rfl rfl rfl rfl ?_ | refine AW_fieldAddr rfl tf_neg rfl rfl ?_ | refine AW_fieldAddr rfl tf_row0 rfl rfl ?_ | refine AW_fieldAddr rfl tf_row1 rfl rfl ?_ | refine AW_arrayAt rfl Tryz.underlying75 ts_num rfl rfl rfl rfl ?_
              | refine AW_pickT rfl rfl rfl ?_
              | refine AW_pickF rfl rfl rfl ?_
              | refine AW_skip rfl rfl rfl rfl ?_
              | refine AW_pickTg rfl rfl rfl rfl rfl rfl ?_
              | refine AW_pickFg rfl rfl rfl rfl rfl rfl ?_
              | refine AW_moveg rfl rfl rfl rfl rfl ?_
              | refine AW_notg rfl rfl rfl rfl rfl ?_
              | refine AW_eqg rfl rfl rfl rfl rfl rfl ?_
              | refine AW_eq rfl rfl rfl ?_
              | refine AW_loadg rfl rfl rfl rfl ty_num rfl rfl rfl rfl ?_
              | refine AW_loadg rfl rfl rfl rfl ty_row rfl rfl rfl rfl ?_
              | refine AW_callg rfl rfl rfl rfl rfl (by first | exact ct_right _ (Nat.le_of_ble_eq_true rfl) | exact ct_gzeroT _ (by assumption) | exact ct_gzeroF _ (by assumption) | exact ct_gsize _ (by assumption) | exact ct_run _ _ _ ha hb | exact kE | exact kF) ?_
              | refine AW_nil (fun (h : false = true) => by cases h) ?_
              | refine AW_nil (fun (_ : true = true) => by kernel_rfl) ?_
              | refine Wp_block ?_
              | refine Wp_skip ?_
              | refine Wp_exit ?_
              | refine Wp_ret ?_
            refine Wp_to (fun s' => Le s' ⟨[(2, .val (.one (.ptr 0 0))), (3, .val (.one (.ptr 1 0))), (4, .val (.one (.ptr 2 0))), (5, .val (.one (.ptr 3 0))), (6, .val (.one (.ptr 4 0))), (9, .val (.one (.ptr 6 0))), (10, .val (.one (.ptr 7 0))), (11, .val (.one (.ptr 8 0))), (12, .val (.one (.ptr 9 0))), (15, .val (.one (.ptr 10 0)))],
      [(0, 24, [.b (rawOf a).1, .st (magP (rawOf a).2)]), (1, 24, [.b (rawOf b).1, .st (magP (rawOf b).2)]), (2, 24, [.b false, .st (magP [])]), (3, 24, [.b false, .st (magP [])]), (4, 24, [.b false, .st (magP [])]),
       (6, 24, [.b (rawOf (gcdZ a b)).1, .st (magP (rawOf (gcdZ a b)).2)]), (7, 24, [.b (rawOf (eX a b)).1, .st (magP (rawOf (eX a b)).2)]), (8, 24, [.b (rawOf (eY a b)).1, .st (magP (rawOf (eY a b)).2)]), (9, 24, [.b (rawOf (bM a b)).1, .st (magP (rawOf (bM a b)).2)]), (10, 24, [.b (rawOf (bT a b)).1, .st (magP (rawOf (bT a b)).2)])], 11⟩) ?_ ?_
            · refine Wp_cond rfl (fun hc => ?_) (fun hc => ?_)
              · have hT : bT a b = -(a.tdiv (gcdZ a b)) := by unfold bT; rw [if_pos (of_decide_eq_true hc)]
                rw [hT]
                repeat first
                  | refine Wp_seq ?_
                  | refine Wp_region tm_mixed ?_
                  | refine AW_move rfl rfl ?_
                  | refine AW_assign rfl rfl ?_
                  | refine AW_load rfl ty_num rfl rfl rfl rfl ?_
                  | refine AW_load rfl ty_row rfl rfl rfl rfl ?_
                  | refine AW_store ty_num rfl rfl rfl rfl rfl rfl rfl ?_
                  | refine AW_store ty_row rfl rfl rfl rfl rfl rfl rfl ?_
                  | refine AW_extract rfl rfl rfl ?_
                  | refine AW_alloc rfl tz_num ?_
                  | refine AW_alloc rfl tz_row ?_
                  | refine AW_box rfl rfl (row := true) rfl (fun h => by cases h) rfl ?_
                  | refine AW_not rfl rfl ?_
                  | refine AW_build rfl tb_num rfl ?_
                  | refine AW_build rfl tb_row rfl ?_
                  | refine AW_call rfl rfl (by first | exact ct_right _ (Nat.le_of_ble_eq_true rfl) | exact ct_gzeroT _ (by assumption) | exact ct_gzeroF _ (by assumption) | exact ct_gsize _ (by assumption) | exact ct_run _ _ _ ha hb | exact ct_Neg _ hT1) ?_
                  | refine AW_ints rfl tu_nums ti_num ti_size ti_zero rfl rfl rfl (by first | exact .cons _ _ _ _ _ rfl (.cons _ _ _ _ _ rfl (.nil _)) | exact .cons _ _ _ _ _ rfl (.cons _ _ _ _ _ rfl (.cons _ _ _ _ _ rfl (.cons _ _ _ _ _ rfl (.nil _)))) | exact .cons _ _ _ _ _ rfl (.cons _ _ _ _ _ rfl (.cons _ _ _ _ _ rfl (.nil _))) | exact .cons _ _ _ _ _ rfl (.cons _ _ _ _ _ rfl (.cons _ _ _ _ _ rfl (.cons _ _ _ _ _ rfl (.cons _ _ _ _ _ rfl (.nil _)))))) ?_
                  | refine AW_load rfl ty_bool rfl rfl rfl rfl ?_ | refine AW_fieldAddr rfl tf_neg rfl rfl ?_ | refine AW_fieldAddr rfl tf_row0 rfl rfl ?_ | refine AW_fieldAddr rfl tf_row1 rfl rfl ?_ | refine AW_arrayAt rfl Tryz.underlying75 ts_num rfl rfl rfl rfl ?_
                  | refine AW_pickT rfl rfl rfl ?_
                  | refine AW_pickF rfl rfl rfl ?_
                  | refine AW_skip rfl rfl rfl rfl ?_
                  | refine AW_pickTg rfl rfl rfl rfl rfl rfl ?_
                  | refine AW_pickFg rfl rfl rfl rfl rfl rfl ?_
                  | refine AW_moveg rfl rfl rfl rfl rfl ?_
                  | refine AW_notg rfl rfl rfl rfl rfl ?_
                  | refine AW_eqg rfl rfl rfl rfl rfl rfl ?_
                  | refine AW_eq rfl rfl rfl ?_
                  | refine AW_loadg rfl rfl rfl rfl ty_num rfl rfl rfl rfl ?_
                  | refine AW_loadg rfl rfl rfl rfl ty_row rfl rfl rfl rfl ?_
                  | refine AW_callg rfl rfl rfl rfl rfl (by first | exact ct_right _ (Nat.le_of_ble_eq_true rfl) | exact ct_gzeroT _ (by assumption) | exact ct_gzeroF _ (by assumption) | exact ct_gsize _ (by assumption) | exact ct_run _ _ _ ha hb | exact ct_Neg _ hT1) ?_
                  | refine AW_nil (fun (h : false = true) => by cases h) ?_
                  | refine AW_nil (fun (_ : true = true) => by kernel_rfl) ?_
                  | refine Wp_block ?_
                  | refine Wp_skip ?_
                  | refine Wp_exit ?_
                  | refine Wp_ret ?_
                exact le_of ⟨rfl, rfl, rfl, rfl, rfl, rfl, rfl, rfl, rfl, rfl, trivial⟩ ⟨rfl, rfl, rfl, rfl, rfl, rfl, rfl, rfl, rfl, rfl, trivial⟩ rfl
              · have hT : bT a b = a.tdiv (gcdZ a b) := by unfold bT; rw [if_neg (of_decide_eq_false hc)]
                rw [hT]
                repeat first
                  | refine Wp_seq ?_
                  | refine Wp_region tm_mixed ?_
                  | refine AW_move rfl rfl ?_
                  | refine AW_assign rfl rfl ?_
                  | refine AW_load rfl ty_num rfl rfl rfl rfl ?_
                  | refine AW_load rfl ty_row rfl rfl rfl rfl ?_
                  | refine AW_store ty_num rfl rfl rfl rfl rfl rfl rfl ?_
                  | refine AW_store ty_row rfl rfl rfl rfl rfl rfl rfl ?_
                  | refine AW_extract rfl rfl rfl ?_
                  | refine AW_alloc rfl tz_num ?_
                  | refine AW_alloc rfl tz_row ?_
                  | refine AW_box rfl rfl (row := true) rfl (fun h => by cases h) rfl ?_
                  | refine AW_not rfl rfl ?_
                  | refine AW_build rfl tb_num rfl ?_
                  | refine AW_build rfl tb_row rfl ?_
                  | refine AW_call rfl rfl (by first | exact ct_right _ (Nat.le_of_ble_eq_true rfl) | exact ct_gzeroT _ (by assumption) | exact ct_gzeroF _ (by assumption) | exact ct_gsize _ (by assumption) | exact ct_run _ _ _ ha hb) ?_
                  | refine AW_ints rfl tu_nums ti_num ti_size ti_zero rfl rfl rfl (by first | exact .cons _ _ _ _ _ rfl (.cons _ _ _ _ _ rfl (.nil _)) | exact .cons _ _ _ _ _ rfl (.cons _ _ _ _ _ rfl (.cons _ _ _ _ _ rfl (.cons _ _ _ _ _ rfl (.nil _)))) | exact .cons _ _ _ _ _ rfl (.cons _ _ _ _ _ rfl (.cons _ _ _ _ _ rfl (.nil _))) | exact .cons _ _ _ _ _ rfl (.cons _ _ _ _ _ rfl (.cons _ _ _ _ _ rfl (.cons _ _ _ _ _ rfl (.cons _ _ _ _ _ rfl (.nil _)))))) ?_
                  | refine AW_load rfl ty_bool rfl rfl rfl rfl ?_ | refine AW_fieldAddr rfl tf_neg rfl rfl ?_ | refine AW_fieldAddr rfl tf_row0 rfl rfl ?_ | refine AW_fieldAddr rfl tf_row1 rfl rfl ?_ | refine AW_arrayAt rfl Tryz.underlying75 ts_num rfl rfl rfl rfl ?_
                  | refine AW_pickT rfl rfl rfl ?_
                  | refine AW_pickF rfl rfl rfl ?_
                  | refine AW_skip rfl rfl rfl rfl ?_
                  | refine AW_pickTg rfl rfl rfl rfl rfl rfl ?_
                  | refine AW_pickFg rfl rfl rfl rfl rfl rfl ?_
                  | refine AW_moveg rfl rfl rfl rfl rfl ?_
                  | refine AW_notg rfl rfl rfl rfl rfl ?_
                  | refine AW_eqg rfl rfl rfl rfl rfl rfl ?_
                  | refine AW_eq rfl rfl rfl ?_
                  | refine AW_loadg rfl rfl rfl rfl ty_num rfl rfl rfl rfl ?_
                  | refine AW_loadg rfl rfl rfl rfl ty_row rfl rfl rfl rfl ?_
                  | refine AW_callg rfl rfl rfl rfl rfl (by first | exact ct_right _ (Nat.le_of_ble_eq_true rfl) | exact ct_gzeroT _ (by assumption) | exact ct_gzeroF _ (by assumption) | exact ct_gsize _ (by assumption) | exact ct_run _ _ _ ha hb) ?_
                  | refine AW_nil (fun (h : false = true) => by cases h) ?_
                  | refine AW_nil (fun (_ : true = true) => by kernel_rfl) ?_
                  | refine Wp_block ?_
                  | refine Wp_skip ?_
                  | refine Wp_exit ?_
                  | refine Wp_ret ?_
                exact le_of ⟨rfl, rfl, rfl, rfl, rfl, rfl, rfl, rfl, rfl, rfl, trivial⟩ ⟨rfl, rfl, rfl, rfl, rfl, rfl, rfl, rfl, rfl, rfl, trivial⟩ rfl
            · intro s3 hs3
              refine Wp_le hs3 ?_
              repeat first
                | refine Wp_seq ?_
                | refine Wp_region tm_mixed ?_
                | refine AW_move rfl rfl ?_
                | refine AW_assign rfl rfl ?_
                | refine AW_load rfl ty_num rfl rfl rfl rfl ?_
                | refine AW_load rfl ty_row rfl rfl rfl rfl ?_
                | refine AW_store ty_num rfl rfl rfl rfl rfl rfl rfl ?_
                | refine AW_store ty_row rfl rfl rfl rfl rfl rfl rfl ?_
                | refine AW_extract rfl rfl rfl ?_
                | refine AW_alloc rfl tz_num ?_
                | refine AW_alloc rfl tz_row ?_
                | refine AW_box rfl rfl (row := true) rfl (fun h => by cases h) rfl ?_
                | refine AW_not rfl rfl ?_
                | refine AW_build rfl tb_num rfl ?_
                | refine AW_build rfl tb_row rfl ?_
                | refine AW_call rfl rfl (by first | exact ct_right _ (Nat.le_of_ble_eq_true rfl) | exact ct_gzeroT _ (by assumption) | exact ct_gzeroF _ (by assumption) | exact ct_gsize _ (by assumption) | exact ct_run _ _ _ ha hb) ?_
                | refine AW_ints rfl tu_nums ti_num ti_size ti_zero rfl rfl rfl (by first | exact .cons _ _ _ _ _ rfl (.cons _ _ _ _ _ rfl (.nil _)) | exact .cons _ _ _ _ _ rfl (.cons _ _ _ _ _ rfl (.cons _ _ _ _ _ rfl (.cons _ _ _ _ _ rfl (.nil _)))) | exact .cons _ _ _ _ _ rfl (.cons _ _ _ _ _ rfl (.cons _ _ _ _ _ rfl (.nil _))) | exact .cons _ _ _ _ _ rfl (.cons _ _ _ _ _ rfl (.cons _ _ _ _ _ rfl (.cons _ _ _ _ _ rfl (.cons _ _ _ _ _ rfl (.nil _)))))) ?_
                | refine AW_load rfl ty_bool rfl rfl rfl rfl ?_ | refine AW_fieldAddr rfl tf_neg rfl rfl ?_ | refine AW_fieldAddr rfl tf_row0 rfl rfl ?_ | refine AW_fieldAddr rfl tf_row1 rfl rfl ?_ | refine AW_arrayAt rfl Tryz.underlying75 ts_num rfl rfl rfl rfl ?_
                | refine AW_pickT rfl rfl rfl ?_
                | refine AW_pickF rfl rfl rfl ?_
                | refine AW_skip rfl rfl rfl rfl ?_
                | refine AW_pickTg rfl rfl rfl rfl rfl rfl ?_
                | refine AW_pickFg rfl rfl rfl rfl rfl rfl ?_
                | refine AW_moveg rfl rfl rfl rfl rfl ?_
                | refine AW_notg rfl rfl rfl rfl rfl ?_
                | refine AW_eqg rfl rfl rfl rfl rfl rfl ?_
                | refine AW_eq rfl rfl rfl ?_
                | refine AW_loadg rfl rfl rfl rfl ty_num rfl rfl rfl rfl ?_
                | refine AW_loadg rfl rfl rfl rfl ty_row rfl rfl rfl rfl ?_
                | refine AW_callg rfl rfl rfl rfl rfl (by first | exact ct_right _ (Nat.le_of_ble_eq_true rfl) | exact ct_gzeroT _ (by assumption) | exact ct_gzeroF _ (by assumption) | exact ct_gsize _ (by assumption) | exact ct_run _ _ _ ha hb) ?_
                | refine AW_nil (fun (h : false = true) => by cases h) ?_
                | refine AW_nil (fun (_ : true = true) => by kernel_rfl) ?_
                | refine Wp_block ?_
                | refine Wp_skip ?_
                | refine Wp_exit ?_
                | refine Wp_ret ?_
              refine Wp_loop (fun p : Int × Int => ⟨[(2, .val (.one (.ptr 0 0))), (3, .val (.one (.ptr 1 0))), (4, .val (.one (.ptr 2 0))), (5, .val (.one (.ptr 3 0))), (6, .val (.one (.ptr 4 0))), (9, .val (.one (.ptr 6 0))), (10, .val (.one (.ptr 7 0))), (11, .val (.one (.ptr 8 0))), (12, .val (.one (.ptr 9 0))), (15, .val (.one (.ptr 10 0)))],
      [(0, 24, [.b (rawOf a).1, .st (magP (rawOf a).2)]), (1, 24, [.b (rawOf b).1, .st (magP (rawOf b).2)]), (2, 24, [.b false, .st (magP [])]), (3, 24, [.b false, .st (magP [])]), (4, 24, [.b false, .st (magP [])]),
       (6, 24, [.b (rawOf (gcdZ a b)).1, .st (magP (rawOf (gcdZ a b)).2)]), (7, 24, [.b (rawOf (p.1)).1, .st (magP (rawOf (p.1)).2)]), (8, 24, [.b (rawOf (p.2)).1, .st (magP (rawOf (p.2)).2)]), (9, 24, [.b (rawOf (bM a b)).1, .st (magP (rawOf (bM a b)).2)]), (10, 24, [.b (rawOf (bT a b)).1, .st (magP (rawOf (bT a b)).2)])], 11⟩) (fun p => Turn a b p.1 p.2) (fun p => (-p.1).toNat) (eX a b, eY a b) (Turn.start a b) (le_of ⟨rfl, rfl, rfl, rfl, rfl, rfl, rfl, rfl, rfl, rfl, trivial⟩ ⟨rfl, rfl, rfl, rfl, rfl, rfl, rfl, rfl, rfl, rfl, trivial⟩ rfl) ?_
              rintro ⟨x, y⟩ ht
              dsimp only at ht ⊢
              obtain ⟨lx, ly⟩ := ht.sizes hb0 ha hb
              have lx' : lc x.natAbs ≤ 4096 := by omega
              have ly' : lc y.natAbs ≤ 4096 := by omega
              repeat first
                | refine Wp_seq ?_
                | refine Wp_region tm_mixed ?_
                | refine AW_move rfl rfl ?_
                | refine AW_assign rfl rfl ?_
                | refine AW_load rfl ty_num rfl rfl rfl rfl ?_
                | refine AW_load rfl ty_row rfl rfl rfl rfl ?_
                | refine AW_store ty_num rfl rfl rfl rfl rfl rfl rfl ?_
                | refine AW_store ty_row rfl rfl rfl rfl rfl rfl rfl ?_
                | refine AW_extract rfl rfl rfl ?_
                | refine AW_alloc rfl tz_num ?_
                | refine AW_alloc rfl tz_row ?_
                | refine AW_box rfl rfl (row := true) rfl (fun h => by cases h) rfl ?_
                | refine AW_not rfl rfl ?_
                | refine AW_build rfl tb_num rfl ?_
                | refine AW_build rfl tb_row rfl ?_
                | refine AW_call rfl rfl (by first | exact ct_right _ (Nat.le_of_ble_eq_true rfl) | exact ct_gzeroT _ (by assumption) | exact ct_gzeroF _ (by assumption) | exact ct_gsize _ (by assumption) | exact ct_run _ _ _ ha hb) ?_
                | refine AW_ints rfl tu_nums ti_num ti_size ti_zero rfl rfl rfl (by first | exact .cons _ _ _ _ _ rfl (.cons _ _ _ _ _ rfl (.nil _)) | exact .cons _ _ _ _ _ rfl (.cons _ _ _ _ _ rfl (.cons _ _ _ _ _ rfl (.cons _ _ _ _ _ rfl (.nil _)))) | exact .cons _ _ _ _ _ rfl (.cons _ _ _ _ _ rfl (.cons _ _ _ _ _ rfl (.nil _))) | exact .cons _ _ _ _ _ rfl (.cons _ _ _ _ _ rfl (.cons _ _ _ _ _ rfl (.cons _ _ _ _ _ rfl (.cons _ _ _ _ _ rfl (.nil _)))))) ?_
                | refine AW_load rfl ty_bool rfl rfl rfl rfl ?_ | refine AW_fieldAddr rfl tf_neg rfl rfl ?_ | refine AW_fieldAddr rfl tf_row0 rfl rfl ?_ | refine AW_fieldAddr rfl tf_row1 rfl rfl ?_ | refine AW_arrayAt rfl Tryz.underlying75 ts_num rfl rfl rfl rfl ?_
                | refine AW_pickT rfl rfl rfl ?_
                | refine AW_pickF rfl rfl rfl ?_
                | refine AW_skip rfl rfl rfl rfl ?_
                | refine AW_pickTg rfl rfl rfl rfl rfl rfl ?_
                | refine AW_pickFg rfl rfl rfl rfl rfl rfl ?_
                | refine AW_moveg rfl rfl rfl rfl rfl ?_
                | refine AW_notg rfl rfl rfl rfl rfl ?_
                | refine AW_eqg rfl rfl rfl rfl rfl rfl ?_
                | refine AW_eq rfl rfl rfl ?_
                | refine AW_loadg rfl rfl rfl rfl ty_num rfl rfl rfl rfl ?_
                | refine AW_loadg rfl rfl rfl rfl ty_row rfl rfl rfl rfl ?_
                | refine AW_callg rfl rfl rfl rfl rfl (by first | exact ct_right _ (Nat.le_of_ble_eq_true rfl) | exact ct_gzeroT _ (by assumption) | exact ct_gzeroF _ (by assumption) | exact ct_gsize _ (by assumption) | exact ct_run _ _ _ ha hb) ?_
                | refine AW_nil (fun (h : false = true) => by cases h) ?_
                | refine AW_nil (fun (_ : true = true) => by kernel_rfl) ?_
                | refine Wp_block ?_
                | refine Wp_skip ?_
                | refine Wp_exit ?_
                | refine Wp_ret ?_
              refine Wp_cond rfl (fun hc => ?_) (fun hc => ?_)
              · have hx : x < 0 := of_decide_eq_true hc
                have ht2 := ht.up hb0 hx
                obtain ⟨mx, my⟩ := ht2.sizes hb0 ha hb
                have kA := ct_Add0 x (bM a b) lx' hM1 (by omega)
                have kS := ct_Sub0 y (bT a b) ly' hT2 (by omega)
                repeat first
                  | refine Wp_seq ?_
                  | refine Wp_region tm_mixed ?_
                  | refine AW_move rfl rfl ?_
                  | refine AW_assign rfl rfl ?_
                  | refine AW_load rfl ty_num rfl rfl rfl rfl ?_
                  | refine AW_load rfl ty_row rfl rfl rfl rfl ?_
                  | refine AW_store ty_num rfl rfl rfl rfl rfl rfl rfl ?_
                  | refine AW_store ty_row rfl rfl rfl rfl rfl rfl rfl ?_
                  | refine AW_extract rfl rfl rfl ?_
                  | refine AW_alloc rfl tz_num ?_
                  | refine AW_alloc rfl tz_row ?_
                  | refine AW_box rfl rfl (row := true) rfl (fun h => by cases h) rfl ?_
                  | refine AW_not rfl rfl ?_
                  | refine AW_build rfl tb_num rfl ?_
                  | refine AW_build rfl tb_row rfl ?_
                  | refine AW_call rfl rfl (by first | exact ct_right _ (Nat.le_of_ble_eq_true rfl) | exact ct_gzeroT _ (by assumption) | exact ct_gzeroF _ (by assumption) | exact ct_gsize _ (by assumption) | exact ct_run _ _ _ ha hb | exact kA | exact kS) ?_
                  | refine AW_ints rfl tu_nums ti_num ti_size ti_zero rfl rfl rfl (by first | exact .cons _ _ _ _ _ rfl (.cons _ _ _ _ _ rfl (.nil _)) | exact .cons _ _ _ _ _ rfl (.cons _ _ _ _ _ rfl (.cons _ _ _ _ _ rfl (.cons _ _ _ _ _ rfl (.nil _)))) | exact .cons _ _ _ _ _ rfl (.cons _ _ _ _ _ rfl (.cons _ _ _ _ _ rfl (.nil _))) | exact .cons _ _ _ _ _ rfl (.cons _ _ _ _ _ rfl (.cons _ _ _ _ _ rfl (.cons _ _ _ _ _ rfl (.cons _ _ _ _ _ rfl (.nil _)))))) ?_
                  | refine AW_load rfl ty_bool rfl rfl rfl rfl ?_ | refine AW_fieldAddr rfl tf_neg rfl rfl ?_ | refine AW_fieldAddr rfl tf_row0 rfl rfl ?_ | refine AW_fieldAddr rfl tf_row1 rfl rfl ?_ | refine AW_arrayAt rfl Tryz.underlying75 ts_num rfl rfl rfl rfl ?_
                  | refine AW_pickT rfl rfl rfl ?_
                  | refine AW_pickF rfl rfl rfl ?_
                  | refine AW_skip rfl rfl rfl rfl ?_
                  | refine AW_pickTg rfl rfl rfl rfl rfl rfl ?_
                  | refine AW_pickFg rfl rfl rfl rfl rfl rfl ?_
                  | refine AW_moveg rfl rfl rfl rfl rfl ?_
                  | refine AW_notg rfl rfl rfl rfl rfl ?_
                  | refine AW_eqg rfl rfl rfl rfl rfl rfl ?_
                  | refine AW_eq rfl rfl rfl ?_
                  | refine AW_loadg rfl rfl rfl rfl ty_num rfl rfl rfl rfl ?_
                  | refine AW_loadg rfl rfl rfl rfl ty_row rfl rfl rfl rfl ?_
                  | refine AW_callg rfl rfl rfl rfl rfl (by first | exact ct_right _ (Nat.le_of_ble_eq_true rfl) | exact ct_gzeroT _ (by assumption) | exact ct_gzeroF _ (by assumption) | exact ct_gsize _ (by assumption) | exact ct_run _ _ _ ha hb | exact kA | exact kS) ?_
                  | refine AW_nil (fun (h : false = true) => by cases h) ?_
                  | refine AW_nil (fun (_ : true = true) => by kernel_rfl) ?_
                  | refine Wp_block ?_
                  | refine Wp_skip ?_
                  | refine Wp_exit ?_
                  | refine Wp_ret ?_
                exact ⟨(x + bM a b, y - bT a b), ht2, le_of ⟨rfl, rfl, rfl, rfl, rfl, rfl, rfl, rfl, rfl, rfl, trivial⟩ ⟨rfl, rfl, rfl, rfl, rfl, rfl, rfl, rfl, rfl, rfl, trivial⟩ rfl, by have := bM_pos (a := a) hb0; show (-(x + bM a b)).toNat < (-x).toNat; omega⟩
              · have hx : ¬ x < 0 := of_decide_eq_false hc
                repeat first
                  | refine Wp_seq ?_
                  | refine Wp_region tm_mixed ?_
                  | refine AW_move rfl rfl ?_
                  | refine AW_assign rfl rfl ?_
                  | refine AW_load rfl ty_num rfl rfl rfl rfl ?_
                  | refine AW_load rfl ty_row rfl rfl rfl rfl ?_
                  | refine AW_store ty_num rfl rfl rfl rfl rfl rfl rfl ?_
                  | refine AW_store ty_row rfl rfl rfl rfl rfl rfl rfl ?_
                  | refine AW_extract rfl rfl rfl ?_
                  | refine AW_alloc rfl tz_num ?_
                  | refine AW_alloc rfl tz_row ?_
                  | refine AW_box rfl rfl (row := true) rfl (fun h => by cases h) rfl ?_
                  | refine AW_not rfl rfl ?_
                  | refine AW_build rfl tb_num rfl ?_
                  | refine AW_build rfl tb_row rfl ?_
                  | refine AW_call rfl rfl (by first | exact ct_right _ (Nat.le_of_ble_eq_true rfl) | exact ct_gzeroT _ (by assumption) | exact ct_gzeroF _ (by assumption) | exact ct_gsize _ (by assumption) | exact ct_run _ _ _ ha hb) ?_
                  | refine AW_ints rfl tu_nums ti_num ti_size ti_zero rfl rfl rfl (by first | exact .cons _ _ _ _ _ rfl (.cons _ _ _ _ _ rfl (.nil _)) | exact .cons _ _ _ _ _ rfl (.cons _ _ _ _ _ rfl (.cons _ _ _ _ _ rfl (.cons _ _ _ _ _ rfl (.nil _)))) | exact .cons _ _ _ _ _ rfl (.cons _ _ _ _ _ rfl (.cons _ _ _ _ _ rfl (.nil _))) | exact .cons _ _ _ _ _ rfl (.cons _ _ _ _ _ rfl (.cons _ _ _ _ _ rfl (.cons _ _ _ _ _ rfl (.cons _ _ _ _ _ rfl (.nil _)))))) ?_
                  | refine AW_load rfl ty_bool rfl rfl rfl rfl ?_ | refine AW_fieldAddr rfl tf_neg rfl rfl ?_ | refine AW_fieldAddr rfl tf_row0 rfl rfl ?_ | refine AW_fieldAddr rfl tf_row1 rfl rfl ?_ | refine AW_arrayAt rfl Tryz.underlying75 ts_num rfl rfl rfl rfl ?_
                  | refine AW_pickT rfl rfl rfl ?_
                  | refine AW_pickF rfl rfl rfl ?_
                  | refine AW_skip rfl rfl rfl rfl ?_
                  | refine AW_pickTg rfl rfl rfl rfl rfl rfl ?_
                  | refine AW_pickFg rfl rfl rfl rfl rfl rfl ?_
                  | refine AW_moveg rfl rfl rfl rfl rfl ?_
                  | refine AW_notg rfl rfl rfl rfl rfl ?_
                  | refine AW_eqg rfl rfl rfl rfl rfl rfl ?_
                  | refine AW_eq rfl rfl rfl ?_
                  | refine AW_loadg rfl rfl rfl rfl ty_num rfl rfl rfl rfl ?_
                  | refine AW_loadg rfl rfl rfl rfl ty_row rfl rfl rfl rfl ?_
                  | refine AW_callg rfl rfl rfl rfl rfl (by first | exact ct_right _ (Nat.le_of_ble_eq_true rfl) | exact ct_gzeroT _ (by assumption) | exact ct_gzeroF _ (by assumption) | exact ct_gsize _ (by assumption) | exact ct_run _ _ _ ha hb) ?_
                  | refine AW_nil (fun (h : false = true) => by cases h) ?_
                  | refine AW_nil (fun (_ : true = true) => by kernel_rfl) ?_
                  | refine Wp_block ?_
                  | refine Wp_skip ?_
                  | refine Wp_exit ?_
                  | refine Wp_ret ?_
                refine Wp_loop (fun p : Int × Int => ⟨[(2, .val (.one (.ptr 0 0))), (3, .val (.one (.ptr 1 0))), (4, .val (.one (.ptr 2 0))), (5, .val (.one (.ptr 3 0))), (6, .val (.one (.ptr 4 0))), (9, .val (.one (.ptr 6 0))), (10, .val (.one (.ptr 7 0))), (11, .val (.one (.ptr 8 0))), (12, .val (.one (.ptr 9 0))), (15, .val (.one (.ptr 10 0)))],
      [(0, 24, [.b (rawOf a).1, .st (magP (rawOf a).2)]), (1, 24, [.b (rawOf b).1, .st (magP (rawOf b).2)]), (2, 24, [.b false, .st (magP [])]), (3, 24, [.b false, .st (magP [])]), (4, 24, [.b false, .st (magP [])]),
       (6, 24, [.b (rawOf (gcdZ a b)).1, .st (magP (rawOf (gcdZ a b)).2)]), (7, 24, [.b (rawOf (p.1)).1, .st (magP (rawOf (p.1)).2)]), (8, 24, [.b (rawOf (p.2)).1, .st (magP (rawOf (p.2)).2)]), (9, 24, [.b (rawOf (bM a b)).1, .st (magP (rawOf (bM a b)).2)]), (10, 24, [.b (rawOf (bT a b)).1, .st (magP (rawOf (bT a b)).2)])], 11⟩) (fun p => Turn a b p.1 p.2 ∧ 0 ≤ p.1) (fun p => p.1.toNat) (x, y) ⟨ht, by show 0 ≤ x; omega⟩ (le_of ⟨rfl, rfl, rfl, rfl, rfl, rfl, rfl, rfl, rfl, rfl, trivial⟩ ⟨rfl, rfl, rfl, rfl, rfl, rfl, rfl, rfl, rfl, rfl, trivial⟩ rfl) ?_
                clear ht lx ly lx' ly' hx hc
                rintro ⟨x, y⟩ ⟨ht, hx⟩
                dsimp only at ht hx ⊢
                obtain ⟨lx, ly⟩ := ht.sizes hb0 ha hb
                have lx' : lc x.natAbs ≤ 4096 := by omega
                have ly' : lc y.natAbs ≤ 4096 := by omega
                have kC := ct_Cmp x (bM a b) lx' hM1
                repeat first
                  | refine Wp_seq ?_
                  | refine Wp_region tm_mixed ?_
                  | refine AW_move rfl rfl ?_
                  | refine AW_assign rfl rfl ?_
                  | refine AW_load rfl ty_num rfl rfl rfl rfl ?_
                  | refine AW_load rfl ty_row rfl rfl rfl rfl ?_
                  | refine AW_store ty_num rfl rfl rfl rfl rfl rfl rfl ?_
                  | refine AW_store ty_row rfl rfl rfl rfl rfl rfl rfl ?_
                  | refine AW_extract rfl rfl rfl ?_
                  | refine AW_alloc rfl tz_num ?_
                  | refine AW_alloc rfl tz_row ?_
                  | refine AW_box rfl rfl (row := true) rfl (fun h => by cases h) rfl ?_
                  | refine AW_not rfl rfl ?_
                  | refine AW_build rfl tb_num rfl ?_
                  | refine AW_build rfl tb_row rfl ?_
                  | refine AW_call rfl rfl (by first | exact ct_right _ (Nat.le_of_ble_eq_true rfl) | exact ct_gzeroT _ (by assumption) | exact ct_gzeroF _ (by assumption) | exact ct_gsize _ (by assumption) | exact ct_run _ _ _ ha hb | exact kC) ?_
                  | refine AW_ints rfl tu_nums ti_num ti_size ti_zero rfl rfl rfl (by first | exact .cons _ _ _ _ _ rfl (.cons _ _ _ _ _ rfl (.nil _)) | exact .cons _ _ _ _ _ rfl (.cons _ _ _ _ _ rfl (.cons _ _ _ _ _ rfl (.cons _ _ _ _ _ rfl (.nil _)))) | exact .cons _ _ _ _ _ rfl (.cons _ _ _ _ _ rfl (.cons _ _ _ _ _ rfl (.nil _))) | exact .cons _ _ _ _ _ rfl (.cons _ _ _ _ _ rfl (.cons _ _ _ _ _ rfl (.cons _ _ _ _ _ rfl (.cons _ _ _ _ _ rfl (.nil _)))))) ?_
                  | refine AW_load rfl ty_bool rfl rfl rfl rfl ?_ | refine AW_fieldAddr rfl tf_neg rfl rfl ?_ | refine AW_fieldAddr rfl tf_row0 rfl rfl ?_ | refine AW_fieldAddr rfl tf_row1 rfl rfl ?_ | refine AW_arrayAt rfl Tryz.underlying75 ts_num rfl rfl rfl rfl ?_
                  | refine AW_pickT rfl rfl rfl ?_
                  | refine AW_pickF rfl rfl rfl ?_
                  | refine AW_skip rfl rfl rfl rfl ?_
                  | refine AW_pickTg rfl rfl rfl rfl rfl rfl ?_
                  | refine AW_pickFg rfl rfl rfl rfl rfl rfl ?_
                  | refine AW_moveg rfl rfl rfl rfl rfl ?_
                  | refine AW_notg rfl rfl rfl rfl rfl ?_
                  | refine AW_eqg rfl rfl rfl rfl rfl rfl ?_
                  | refine AW_eq rfl rfl rfl ?_
                  | refine AW_loadg rfl rfl rfl rfl ty_num rfl rfl rfl rfl ?_
                  | refine AW_loadg rfl rfl rfl rfl ty_row rfl rfl rfl rfl ?_
                  | refine AW_callg rfl rfl rfl rfl rfl (by first | exact ct_right _ (Nat.le_of_ble_eq_true rfl) | exact ct_gzeroT _ (by assumption) | exact ct_gzeroF _ (by assumption) | exact ct_gsize _ (by assumption) | exact ct_run _ _ _ ha hb | exact kC) ?_
                  | refine AW_nil (fun (h : false = true) => by cases h) ?_
                  | refine AW_nil (fun (_ : true = true) => by kernel_rfl) ?_
                  | refine Wp_block ?_
                  | refine Wp_skip ?_
                  | refine Wp_exit ?_
                  | refine Wp_ret ?_
                refine AW_lt rfl rfl rfl ?_
                repeat first
                  | refine Wp_seq ?_
                  | refine Wp_region tm_mixed ?_
                  | refine AW_move rfl rfl ?_
                  | refine AW_assign rfl rfl ?_
                  | refine AW_load rfl ty_num rfl rfl rfl rfl ?_
                  | refine AW_load rfl ty_row rfl rfl rfl rfl ?_
                  | refine AW_store ty_num rfl rfl rfl rfl rfl rfl rfl ?_
                  | refine AW_store ty_row rfl rfl rfl rfl rfl rfl rfl ?_
                  | refine AW_extract rfl rfl rfl ?_
                  | refine AW_alloc rfl tz_num ?_
                  | refine AW_alloc rfl tz_row ?_
                  | refine AW_box rfl rfl (row := true) rfl (fun h => by cases h) rfl ?_
                  | refine AW_not rfl rfl ?_
                  | refine AW_build rfl tb_num rfl ?_
                  | refine AW_build rfl tb_row rfl ?_
                  | refine AW_call rfl rfl (by first | exact ct_right _ (Nat.le_of_ble_eq_true rfl) | exact ct_gzeroT _ (by assumption) | exact ct_gzeroF _ (by assumption) | exact ct_gsize _ (by assumption) | exact ct_run _ _ _ ha hb) ?_
                  | refine AW_ints rfl tu_nums ti_num ti_size ti_zero rfl rfl rfl (by first | exact .cons _ _ _ _ _ rfl (.cons _ _ _ _ _ rfl (.nil _)) | exact .cons _ _ _ _ _ rfl (.cons _ _ _ _ _ rfl (.cons _ _ _ _ _ rfl (.cons _ _ _ _ _ rfl (.nil _)))) | exact .cons _ _ _ _ _ rfl (.cons _ _ _ _ _ rfl (.cons _ _ _ _ _ rfl (.nil _))) | exact .cons _ _ _ _ _ rfl (.cons _ _ _ _ _ rfl (.cons _ _ _ _ _ rfl (.cons _ _ _ _ _ rfl (.cons _ _ _ _ _ rfl (.nil _)))))) ?_
                  | refine AW_load rfl ty_bool rfl rfl rfl rfl ?_ | refine AW_fieldAddr rfl tf_neg rfl rfl ?_ | refine AW_fieldAddr rfl tf_row0 rfl rfl ?_ | refine AW_fieldAddr rfl tf_row1 rfl rfl ?_ | refine AW_arrayAt rfl Tryz.underlying75 ts_num rfl rfl rfl rfl ?_
                  | refine AW_pickT rfl rfl rfl ?_
                  | refine AW_pickF rfl rfl rfl ?_
                  | refine AW_skip rfl rfl rfl rfl ?_
                  | refine AW_pickTg rfl rfl rfl rfl rfl rfl ?_
                  | refine AW_pickFg rfl rfl rfl rfl rfl rfl ?_
                  | refine AW_moveg rfl rfl rfl rfl rfl ?_
                  | refine AW_notg rfl rfl rfl rfl rfl ?_
                  | refine AW_eqg rfl rfl rfl rfl rfl rfl ?_
                  | refine AW_eq rfl rfl rfl ?_
                  | refine AW_loadg rfl rfl rfl rfl ty_num rfl rfl rfl rfl ?_
                  | refine AW_loadg rfl rfl rfl rfl ty_row rfl rfl rfl rfl ?_
                  | refine AW_callg rfl rfl rfl rfl rfl (by first | exact ct_right _ (Nat.le_of_ble_eq_true rfl) | exact ct_gzeroT _ (by assumption) | exact ct_gzeroF _ (by assumption) | exact ct_gsize _ (by assumption) | exact ct_run _ _ _ ha hb) ?_
                  | refine AW_nil (fun (h : false = true) => by cases h) ?_
                  | refine AW_nil (fun (_ : true = true) => by kernel_rfl) ?_
                  | refine Wp_block ?_
                  | refine Wp_skip ?_
                  | refine Wp_exit ?_
                  | refine Wp_ret ?_
                refine Wp_cond rfl (fun hc => ?_) (fun hc => ?_)
                · have hlt : x < bM a b := cmpZ_low.1 (of_decide_eq_true hc)
                  obtain ⟨e1, e2⟩ := ht.last hb0 hx hlt
                  repeat first
                    | refine Wp_seq ?_
                    | refine Wp_region tm_mixed ?_
                    | refine AW_move rfl rfl ?_
                    | refine AW_assign rfl rfl ?_
                    | refine AW_load rfl ty_num rfl rfl rfl rfl ?_
                    | refine AW_load rfl ty_row rfl rfl rfl rfl ?_
                    | refine AW_store ty_num rfl rfl rfl rfl rfl rfl rfl ?_
                    | refine AW_store ty_row rfl rfl rfl rfl rfl rfl rfl ?_
                    | refine AW_extract rfl rfl rfl ?_
                    | refine AW_alloc rfl tz_num ?_
                    | refine AW_alloc rfl tz_row ?_
                    | refine AW_box rfl rfl (row := true) rfl (fun h => by cases h) rfl ?_
                    | refine AW_not rfl rfl ?_
                    | refine AW_build rfl tb_num rfl ?_
                    | refine AW_build rfl tb_row rfl ?_
                    | refine AW_call rfl rfl (by first | exact ct_right _ (Nat.le_of_ble_eq_true rfl) | exact ct_gzeroT _ (by assumption) | exact ct_gzeroF _ (by assumption) | exact ct_gsize _ (by assumption) | exact ct_run _ _ _ ha hb) ?_
                    | refine AW_ints rfl tu_nums ti_num ti_size ti_zero rfl rfl rfl (by first | exact .cons _ _ _ _ _ rfl (.cons _ _ _ _ _ rfl (.nil _)) | exact .cons _ _ _ _ _ rfl (.cons _ _ _ _ _ rfl (.cons _ _ _ _ _ rfl (.cons _ _ _ _ _ rfl (.nil _)))) | exact .cons _ _ _ _ _ rfl (.cons _ _ _ _ _ rfl (.cons _ _ _ _ _ rfl (.nil _))) | exact .cons _ _ _ _ _ rfl (.cons _ _ _ _ _ rfl (.cons _ _ _ _ _ rfl (.cons _ _ _ _ _ rfl (.cons _ _ _ _ _ rfl (.nil _)))))) ?_
                    | refine AW_load rfl ty_bool rfl rfl rfl rfl ?_ | refine AW_fieldAddr rfl tf_neg rfl rfl ?_ | refine AW_fieldAddr rfl tf_row0 rfl rfl ?_ | refine AW_fieldAddr rfl tf_row1 rfl rfl ?_ | refine AW_arrayAt rfl Tryz.underlying75 ts_num rfl rfl rfl rfl ?_
                    | refine AW_pickT rfl rfl rfl ?_
                    | refine AW_pickF rfl rfl rfl ?_
                    | refine AW_skip rfl rfl rfl rfl ?_
                    | refine AW_pickTg rfl rfl rfl rfl rfl rfl ?_
                    | refine AW_pickFg rfl rfl rfl rfl rfl rfl ?_
                    | refine AW_moveg rfl rfl rfl rfl rfl ?_
                    | refine AW_notg rfl rfl rfl rfl rfl ?_
                    | refine AW_eqg rfl rfl rfl rfl rfl rfl ?_
                    | refine AW_eq rfl rfl rfl ?_
                    | refine AW_loadg rfl rfl rfl rfl ty_num rfl rfl rfl rfl ?_
                    | refine AW_loadg rfl rfl rfl rfl ty_row rfl rfl rfl rfl ?_
                    | refine AW_callg rfl rfl rfl rfl rfl (by first | exact ct_right _ (Nat.le_of_ble_eq_true rfl) | exact ct_gzeroT _ (by assumption) | exact ct_gzeroF _ (by assumption) | exact ct_gsize _ (by assumption) | exact ct_run _ _ _ ha hb) ?_
                    | refine AW_nil (fun (h : false = true) => by cases h) ?_
                    | refine AW_nil (fun (_ : true = true) => by kernel_rfl) ?_
                    | refine Wp_block ?_
                    | refine Wp_skip ?_
                    | refine Wp_exit ?_
                    | refine Wp_ret ?_
                  exact ⟨.inr rfl, _, .cell _ _ _ _ _ _ _ _ _ _ _ ty_num rfl rfl rfl (.cell _ _ _ _ _ _ _ _ _ _ _ ty_num rfl rfl rfl (.cell _ _ _ _ _ _ _ _ _ _ _ ty_num rfl rfl rfl (.tmp _ _ _ _ rfl .nil))), by
                    rw [← e1, ← e2]; rfl⟩
                · have hge : bM a b ≤ x := by have : ¬ x < bM a b := fun h => of_decide_eq_false hc (cmpZ_low.2 h)
                                              omega
                  have ht2 := ht.down hb0 hge
                  obtain ⟨mx, my⟩ := ht2.sizes hb0 ha hb
                  have kA := ct_Add0 y (bT a b) ly' hT2 (by omega)
                  have kS := ct_Sub0 x (bM a b) lx' hM1 (by omega)
                  repeat first
                    | refine Wp_seq ?_
                    | refine Wp_region tm_mixed ?_
                    | refine AW_move rfl rfl ?_
                    | refine AW_assign rfl rfl ?_
                    | refine AW_load rfl ty_num rfl rfl rfl rfl ?_
                    | refine AW_load rfl ty_row rfl rfl rfl rfl ?_
                    | refine AW_store ty_num rfl rfl rfl rfl rfl rfl rfl ?_
                    | refine AW_store ty_row rfl rfl rfl rfl rfl rfl rfl ?_
                    | refine AW_extract rfl rfl rfl ?_
                    | refine AW_alloc rfl tz_num ?_
                    | refine AW_alloc rfl tz_row ?_
                    | refine AW_box rfl rfl (row := true) rfl (fun h => by cases h) rfl ?_
                    | refine AW_not rfl rfl ?_
                    | refine AW_build rfl tb_num rfl ?_
                    | refine AW_build rfl tb_row rfl ?_
                    | refine AW_call rfl rfl (by first | exact ct_right _ (Nat.le_of_ble_eq_true rfl) | exact ct_gzeroT _ (by assumption) | exact ct_gzeroF _ (by assumption) | exact ct_gsize _ (by assumption) | exact ct_run _ _ _ ha hb | exact kA | exact kS) ?_
                    | refine AW_ints rfl tu_nums ti_num ti_size ti_zero rfl rfl rfl (by first | exact .cons _ _ _ _ _ rfl (.cons _ _ _ _ _ rfl (.nil _)) | exact .cons _ _ _ _ _ rfl (.cons _ _ _ _ _ rfl (.cons _ _ _ _ _ rfl (.cons _ _ _ _ _ rfl (.nil _)))) | exact .cons _ _ _ _ _ rfl (.cons _ _ _ _ _ rfl (.cons _ _ _ _ _ rfl (.nil _))) | exact .cons _ _ _ _ _ rfl (.cons _ _ _ _ _ rfl (.cons _ _ _ _ _ rfl (.cons _ _ _ _ _ rfl (.cons _ _ _ _ _ rfl (.nil _)))))) ?_
                    | refine AW_load rfl ty_bool rfl rfl rfl rfl ?_ | refine AW_fieldAddr rfl tf_neg rfl rfl ?_ | refine AW_fieldAddr rfl tf_row0 rfl rfl ?_ | refine AW_fieldAddr rfl tf_row1 rfl rfl ?_ | refine AW_arrayAt rfl Tryz.underlying75 ts_num rfl rfl rfl rfl ?_
                    | refine AW_pickT rfl rfl rfl ?_
                    | refine AW_pickF rfl rfl rfl ?_
                    | refine AW_skip rfl rfl rfl rfl ?_
                    | refine AW_pickTg rfl rfl rfl rfl rfl rfl ?_
                    | refine AW_pickFg rfl rfl rfl rfl rfl rfl ?_
                    | refine AW_moveg rfl rfl rfl rfl rfl ?_
                    | refine AW_notg rfl rfl rfl rfl rfl ?_
                    | refine AW_eqg rfl rfl rfl rfl rfl rfl ?_
                    | refine AW_eq rfl rfl rfl ?_
                    | refine AW_loadg rfl rfl rfl rfl ty_num rfl rfl rfl rfl ?_
                    | refine AW_loadg rfl rfl rfl rfl ty_row rfl rfl rfl rfl ?_
                    | refine AW_callg rfl rfl rfl rfl rfl (by first | exact ct_right _ (Nat.le_of_ble_eq_true rfl) | exact ct_gzeroT _ (by assumption) | exact ct_gzeroF _ (by assumption) | exact ct_gsize _ (by assumption) | exact ct_run _ _ _ ha hb | exact kA | exact kS) ?_
                    | refine AW_nil (fun (h : false = true) => by cases h) ?_
                    | refine AW_nil (fun (_ : true = true) => by kernel_rfl) ?_
                    | refine Wp_block ?_
                    | refine Wp_skip ?_
                    | refine Wp_exit ?_
                    | refine Wp_ret ?_
                  exact ⟨(x - bM a b, y + bT a b), ⟨ht2, by show 0 ≤ x - bM a b; omega⟩, le_of ⟨rfl, rfl, rfl, rfl, rfl, rfl, rfl, rfl, rfl, rfl, trivial⟩ ⟨rfl, rfl, rfl, rfl, rfl, rfl, rfl, rfl, rfl, rfl, trivial⟩ rfl, by have := bM_pos (a := a) hb0; show (x - bM a b).toNat < x.toNat; omega⟩
end Go.Proofs.YtonbhpadoplpkaaGreat
/- The package gcd, by the abstract machine: Join. -/
namespace Go.Proofs.YtonbhpadoplpkaaGreat
open Go.RowKit Go.Deep
/-- What Join reckons, the lesser modulus first. -/
def jX (r m s n : Int) : Int := (bzX (n.tdiv (gcdZ m n)) (m.tdiv (gcdZ m n)) * ((r % m - s % n).tdiv (gcdZ m n) % m.tdiv (gcdZ m n)) % m.tdiv (gcdZ m n)) * n + s % n
def joinX (r m s n : Int) : Int := if n < m then jX s n r m else jX r m s n
def joins (r m s n : Int) : Prop := (r % m - s % n).tmod (gcdZ m n) = 0
instance (r m s n : Int) : Decidable (joins r m s n) := by unfold joins; infer_instance
theorem gcdZ_comm (a b : Int) : gcdZ a b = gcdZ b a := by unfold gcdZ; rw [Nat.gcd_comm]
theorem gcdZ_times0 (a b c : Int) : gcdZ (a * c) (b * c) = ((gcdZ a b * c).natAbs : Int) := by
  unfold gcdZ
  rw [Int.natAbs_mul, Int.natAbs_mul, Int.natAbs_mul, Int.natAbs_natCast, Nat.gcd_mul_right]
theorem joins_comm (r m s n : Int) : joins s n r m ↔ joins r m s n := by
  unfold joins
  rw [gcdZ_comm n m, show s % n - r % m = -(r % m - s % n) by omega, Int.neg_tmod]
  omega
theorem lcmZ_comm {a b : Int} (_ha : a ≠ 0) (_hb : b ≠ 0) : lcmZ a b = lcmZ b a := by
  unfold lcmZ
  rw [← Int.natCast_mul, ← Int.natCast_mul, Nat.gcd_comm b.natAbs, ← Nat.mul_div_assoc _ (Nat.gcd_dvd_right _ _), ← Nat.mul_div_assoc _ (Nat.gcd_dvd_left _ _), Nat.mul_comm]
/-- What stands behind the turning about. -/
structure JS (r m s n r1 m1 s1 n1 : Int) : Prop where
  hr : lc r1.natAbs ≤ 90
  hm : lc m1.natAbs ≤ 90
  hs : lc s1.natAbs ≤ 90
  hn : lc n1.natAbs ≤ 90
  m0 : 0 < m1
  n0 : 0 < n1
  j : joins r1 m1 s1 n1 ↔ joins r m s n
  x : jX r1 m1 s1 n1 = joinX r m s n
  l : lcmZ m1 n1 = lcmZ m n
theorem bzX_size {a b : Int} (h : b ≠ 0) : (bzX a b).natAbs ≤ b.natAbs := by
  unfold bzX
  rw [if_neg h]
  have h1 := bM_pos (a := a) h
  have h2 := Int.emod_nonneg (eX a b) (show bM a b ≠ 0 by omega)
  have h3 := Int.emod_lt_of_pos (eX a b) h1
  have h4 := bM_le a b
  omega
theorem cmpZ_high {x y : Int} : 0 < cmpZ x y ↔ y < x := by
  rcases Int.lt_trichotomy x y with h | h | h
  · rw [cmpZ_lt h]; omega
  · subst h; rw [cmpZ_eq]; omega
  · rw [cmpZ_gt h]; omega
theorem mod_size {x y : Int} (h : 0 < y) : (x % y).natAbs ≤ y.natAbs := by
  have h1 := Int.emod_nonneg x (show y ≠ 0 by omega)
  have h2 := Int.emod_lt_of_pos x h
  omega
theorem lc_sub {x y : Int} {k : Nat} (hx : lc x.natAbs ≤ k) (hy : lc y.natAbs ≤ k) : lc (x - y).natAbs ≤ k + 1 := by
  have h1 : (x - y).natAbs ≤ x.natAbs + y.natAbs := by omega
  have h2 := lc_mono h1
  have h3 := lc_add x.natAbs y.natAbs
  omega
theorem lc_plus {x y : Int} {k : Nat} (hx : lc x.natAbs ≤ k) (hy : lc y.natAbs ≤ k) : lc (x + y).natAbs ≤ k + 1 := by
  have h1 : (x + y).natAbs ≤ x.natAbs + y.natAbs := by omega
  have h2 := lc_mono h1
  have h3 := lc_add x.natAbs y.natAbs
  omega
theorem lc_tdiv {x y : Int} {k : Nat} (hx : lc x.natAbs ≤ k) : lc (x.tdiv y).natAbs ≤ k := by
  rw [Int.natAbs_tdiv]; exact Nat.le_trans (lc_mono (Nat.div_le_self _ _)) hx
theorem lc_times {x y : Int} {j k : Nat} (hx : lc x.natAbs ≤ j) (hy : lc y.natAbs ≤ k) : lc (x * y).natAbs ≤ j + k := by
  rw [Int.natAbs_mul]; have := lc_mul x.natAbs y.natAbs; omega
set_option maxHeartbeats 1000000 in
set_option maxRecDepth 100000 in
theorem ct_gJoin (r m s n : Int) (hr : lc r.natAbs ≤ 90) (hm : lc m.natAbs ≤ 90) (hs : lc s.natAbs ≤ 90) (hn : lc n.natAbs ≤ 90) (m0 : 0 < m) (n0 : 0 < n) :
    Ct Tryz.prog 34 [aZ r, aZ m, aZ s, aZ n] (.tup (if joins r m s n then [zZ (joinX r m s n), zZ (lcmZ m n), aI 0] else [aInt (false, []), aInt (false, []), aI 300])) := by
  have kR := ct_right [rawOf r, rawOf m, rawOf s, rawOf n] (Nat.le_of_ble_eq_true rfl)
  have e0 : [rawOf r, rawOf m, rawOf s, rawOf n].all rightInt = true := by
    simp [right_raw (Nat.le_trans hr (by decide)), right_raw (Nat.le_trans hm (by decide)), right_raw (Nat.le_trans hs (by decide)), right_raw (Nat.le_trans hn (by decide))]
  rw [e0] at kR
  have hM : mkAV false [AC.b (rawOf m).1] = aB false := by show AV.one (.b (decide (m < 0))) = _; rw [decide_eq_false (by omega)]
  have hN : mkAV false [AC.b (rawOf n).1] = aB false := by show AV.one (.b (decide (n < 0))) = _; rw [decide_eq_false (by omega)]
  have m1 : m ≠ 0 := by omega
  have n1 : n ≠ 0 := by omega
  have kC := ct_Cmp m n (by omega) (by omega)
  refine ct_of_wp [.cell 8 24, .cell 9 24, .tmp 10] [(0, aZ r), (1, aZ m), (2, aZ s), (3, aZ n)] 168 Tryz.func34 rfl rfl rfl rfl rfl rfl rfl (by split <;> rfl) ?_
  intro G0 w0
  repeat first
    | refine Wp_seq ?_
    | refine Wp_region tm_mixed ?_
    | refine AW_move rfl rfl ?_
    | refine AW_assign rfl rfl ?_
    | refine AW_load rfl ty_num rfl rfl rfl rfl ?_
    | refine AW_store ty_num rfl rfl rfl rfl rfl rfl rfl ?_
    | refine AW_extract rfl rfl rfl ?_
    | refine AW_alloc rfl tz_num ?_
    | refine AW_box rfl rfl (row := true) rfl (fun h => by cases h) rfl ?_
    | refine AW_not rfl rfl ?_
    | refine AW_build rfl tb_num rfl ?_
    | refine AW_call rfl rfl (by first | exact kR | exact ct_gzeroF _ (by assumption) | exact kC) ?_
    | refine AW_ints rfl tu_nums ti_num ti_size ti_zero rfl rfl rfl (by first | exact .cons _ _ _ _ _ rfl (.cons _ _ _ _ _ rfl (.nil _)) | exact .cons _ _ _ _ _ rfl (.cons _ _ _ _ _ rfl (.cons _ _ _ _ _ rfl (.cons _ _ _ _ _ rfl (.nil _)))) | exact .cons _ _ _ _ _ rfl (.cons _ _ _ _ _ rfl (.cons _ _ _ _ _ rfl (.nil _))) | exact .cons _ _ _ _ _ rfl (.cons _ _ _ _ _ rfl (.cons _ _ _ _ _ rfl (.cons _ _ _ _ _ rfl (.cons _ _ _ _ _ rfl (.nil _)))))) ?_
    | refine AW_loadg rfl rfl rfl rfl ty_bool rfl rfl rfl hM ?_ | refine AW_loadg rfl rfl rfl rfl ty_bool rfl rfl rfl hN ?_ | refine AW_fieldAddrg rfl rfl rfl rfl tf_neg rfl rfl ?_ | refine AW_gt rfl rfl rfl ?_ | refine AW_ne rfl rfl rfl ?_
    | refine AW_pickT rfl rfl rfl ?_
    | refine AW_pickF rfl rfl rfl ?_
    | refine AW_skip rfl rfl rfl rfl ?_
    | refine AW_pickTg rfl rfl rfl rfl rfl rfl ?_
    | refine AW_pickFg rfl rfl rfl rfl rfl rfl ?_
    | refine AW_moveg rfl rfl rfl rfl rfl ?_
    | refine AW_notg rfl rfl rfl rfl rfl ?_
    | refine AW_eqg rfl rfl rfl rfl rfl rfl ?_
    | refine AW_eq rfl rfl rfl ?_
    | refine AW_loadg rfl rfl rfl rfl ty_num rfl rfl rfl rfl ?_
    | refine AW_callg rfl rfl rfl rfl rfl (by first | exact kR | exact ct_gzeroF _ (by assumption) | exact kC) ?_
    | refine AW_nil (fun (h : false = true) => by cases h) ?_
    | refine AW_nil (fun (_ : true = true) => by kernel_rfl) ?_
    | refine Wp_block ?_
    | refine Wp_skip ?_
    | refine Wp_exit ?_
    | refine Wp_ret ?_
  refine Wp_condF rfl ?_
  repeat first
    | refine Wp_seq ?_
    | refine Wp_region tm_mixed ?_
    | refine AW_move rfl rfl ?_
    | refine AW_assign rfl rfl ?_
    | refine AW_load rfl ty_num rfl rfl rfl rfl ?_
    | refine AW_store ty_num rfl rfl rfl rfl rfl rfl rfl ?_
    | refine AW_extract rfl rfl rfl ?_
    | refine AW_alloc rfl tz_num ?_
    | refine AW_box rfl rfl (row := true) rfl (fun h => by cases h) rfl ?_
    | refine AW_not rfl rfl ?_
    | refine AW_build rfl tb_num rfl ?_
    | refine AW_call rfl rfl (by first | exact kR | exact ct_gzeroF _ (by assumption) | exact kC) ?_
    | refine AW_ints rfl tu_nums ti_num ti_size ti_zero rfl rfl rfl (by first | exact .cons _ _ _ _ _ rfl (.cons _ _ _ _ _ rfl (.nil _)) | exact .cons _ _ _ _ _ rfl (.cons _ _ _ _ _ rfl (.cons _ _ _ _ _ rfl (.cons _ _ _ _ _ rfl (.nil _)))) | exact .cons _ _ _ _ _ rfl (.cons _ _ _ _ _ rfl (.cons _ _ _ _ _ rfl (.nil _))) | exact .cons _ _ _ _ _ rfl (.cons _ _ _ _ _ rfl (.cons _ _ _ _ _ rfl (.cons _ _ _ _ _ rfl (.cons _ _ _ _ _ rfl (.nil _)))))) ?_
    | refine AW_loadg rfl rfl rfl rfl ty_bool rfl rfl rfl hM ?_ | refine AW_loadg rfl rfl rfl rfl ty_bool rfl rfl rfl hN ?_ | refine AW_fieldAddrg rfl rfl rfl rfl tf_neg rfl rfl ?_ | refine AW_gt rfl rfl rfl ?_ | refine AW_ne rfl rfl rfl ?_
    | refine AW_pickT rfl rfl rfl ?_
    | refine AW_pickF rfl rfl rfl ?_
    | refine AW_skip rfl rfl rfl rfl ?_
    | refine AW_pickTg rfl rfl rfl rfl rfl rfl ?_
    | refine AW_pickFg rfl rfl rfl rfl rfl rfl ?_
    | refine AW_moveg rfl rfl rfl rfl rfl ?_
    | refine AW_notg rfl rfl rfl rfl rfl ?_
    | refine AW_eqg rfl rfl rfl rfl rfl rfl ?_
    | refine AW_eq rfl rfl rfl ?_
    | refine AW_loadg rfl rfl rfl rfl ty_num rfl rfl rfl rfl ?_
    | refine AW_callg rfl rfl rfl rfl rfl (by first | exact kR | exact ct_gzeroF _ (by assumption) | exact kC) ?_
    | refine AW_nil (fun (h : false = true) => by cases h) ?_
    | refine AW_nil (fun (_ : true = true) => by kernel_rfl) ?_
    | refine Wp_block ?_
    | refine Wp_skip ?_
    | refine Wp_exit ?_
    | refine Wp_ret ?_
  refine Wp_to (fun s' => ∃ r1 m1 s1 n1 : Int, JS r m s n r1 m1 s1 n1 ∧ Le s' ⟨[(4, .val (.one (.ptr 0 0))), (5, .val (.one (.ptr 1 0))), (6, .val (.one (.ptr 2 0))), (7, .val (.one (.ptr 3 0))), (8, .val (.one (.ptr 4 0))), (9, .val (.one (.ptr 5 0)))],
    [(0, 24, [.b (rawOf r1).1, .st (magP (rawOf r1).2)]), (1, 24, [.b (rawOf m1).1, .st (magP (rawOf m1).2)]), (2, 24, [.b (rawOf s1).1, .st (magP (rawOf s1).2)]), (3, 24, [.b (rawOf n1).1, .st (magP (rawOf n1).2)]), (4, 24, [.b false, .st (magP [])]), (5, 24, [.b false, .st (magP [])])], 6⟩) ?_ ?_
  · refine Wp_cond rfl (fun hc => ?_) (fun hc => ?_)
    · have hlt : n < m := cmpZ_high.1 (of_decide_eq_true hc)
      repeat first
        | refine Wp_seq ?_
        | refine Wp_region tm_mixed ?_
        | refine AW_move rfl rfl ?_
        | refine AW_assign rfl rfl ?_
        | refine AW_load rfl ty_num rfl rfl rfl rfl ?_
        | refine AW_store ty_num rfl rfl rfl rfl rfl rfl rfl ?_
        | refine AW_extract rfl rfl rfl ?_
        | refine AW_alloc rfl tz_num ?_
        | refine AW_box rfl rfl (row := true) rfl (fun h => by cases h) rfl ?_
        | refine AW_not rfl rfl ?_
        | refine AW_build rfl tb_num rfl ?_
        | refine AW_call rfl rfl (by first | exact kR | exact ct_gzeroF _ (by assumption) | exact kC) ?_
        | refine AW_ints rfl tu_nums ti_num ti_size ti_zero rfl rfl rfl (by first | exact .cons _ _ _ _ _ rfl (.cons _ _ _ _ _ rfl (.nil _)) | exact .cons _ _ _ _ _ rfl (.cons _ _ _ _ _ rfl (.cons _ _ _ _ _ rfl (.cons _ _ _ _ _ rfl (.nil _)))) | exact .cons _ _ _ _ _ rfl (.cons _ _ _ _ _ rfl (.cons _ _ _ _ _ rfl (.nil _))) | exact .cons _ _ _ _ _ rfl (.cons _ _ _ _ _ rfl (.cons _ _ _ _ _ rfl (.cons _ _ _ _ _ rfl (.cons _ _ _ _ _ rfl (.nil _)))))) ?_
        | refine AW_loadg rfl rfl rfl rfl ty_bool rfl rfl rfl hM ?_ | refine AW_loadg rfl rfl rfl rfl ty_bool rfl rfl rfl hN ?_ | refine AW_fieldAddrg rfl rfl rfl rfl tf_neg rfl rfl ?_ | refine AW_gt rfl rfl rfl ?_ | refine AW_ne rfl rfl rfl ?_
        | refine AW_pickT rfl rfl rfl ?_
        | refine AW_pickF rfl rfl rfl ?_
        | refine AW_skip rfl rfl rfl rfl ?_
        | refine AW_pickTg rfl rfl rfl rfl rfl rfl ?_
        | refine AW_pickFg rfl rfl rfl rfl rfl rfl ?_
        | refine AW_moveg rfl rfl rfl rfl rfl ?_
        | refine AW_notg rfl rfl rfl rfl rfl ?_
        | refine AW_eqg rfl rfl rfl rfl rfl rfl ?_
        | refine AW_eq rfl rfl rfl ?_
        | refine AW_loadg rfl rfl rfl rfl ty_num rfl rfl rfl rfl ?_
        | refine AW_callg rfl rfl rfl rfl rfl (by first | exact kR | exact ct_gzeroF _ (by assumption) | exact kC) ?_
        | refine AW_nil (fun (h : false = true) => by cases h) ?_
        | refine AW_nil (fun (_ : true = true) => by kernel_rfl) ?_
        | refine Wp_block ?_
        | refine Wp_skip ?_
        | refine Wp_exit ?_
        | refine Wp_ret ?_
      exact ⟨s, n, r, m, ⟨hs, hn, hr, hm, n0, m0, joins_comm r m s n, by unfold joinX; rw [if_pos hlt], lcmZ_comm n1 m1⟩, le_of ⟨rfl, rfl, rfl, rfl, rfl, rfl, trivial⟩ ⟨rfl, rfl, rfl, rfl, rfl, rfl, trivial⟩ rfl⟩
    · have hlt : ¬ n < m := fun h => of_decide_eq_false hc (cmpZ_high.2 h)
      repeat first
        | refine Wp_seq ?_
        | refine Wp_region tm_mixed ?_
        | refine AW_move rfl rfl ?_
        | refine AW_assign rfl rfl ?_
        | refine AW_load rfl ty_num rfl rfl rfl rfl ?_
        | refine AW_store ty_num rfl rfl rfl rfl rfl rfl rfl ?_
        | refine AW_extract rfl rfl rfl ?_
        | refine AW_alloc rfl tz_num ?_
        | refine AW_box rfl rfl (row := true) rfl (fun h => by cases h) rfl ?_
        | refine AW_not rfl rfl ?_
        | refine AW_build rfl tb_num rfl ?_
        | refine AW_call rfl rfl (by first | exact kR | exact ct_gzeroF _ (by assumption) | exact kC) ?_
        | refine AW_ints rfl tu_nums ti_num ti_size ti_zero rfl rfl rfl (by first | exact .cons _ _ _ _ _ rfl (.cons _ _ _ _ _ rfl (.nil _)) | exact .cons _ _ _ _ _ rfl (.cons _ _ _ _ _ rfl (.cons _ _ _ _ _ rfl (.cons _ _ _ _ _ rfl (.nil _)))) | exact .cons _ _ _ _ _ rfl (.cons _ _ _ _ _ rfl (.cons _ _ _ _ _ rfl (.nil _))) | exact .cons _ _ _ _ _ rfl (.cons _ _ _ _ _ rfl (.cons _ _ _ _ _ rfl (.cons _ _ _ _ _ rfl (.cons _ _ _ _ _ rfl (.nil _)))))) ?_
        | refine AW_loadg rfl rfl rfl rfl ty_bool rfl rfl rfl hM ?_ | refine AW_loadg rfl rfl rfl rfl ty_bool rfl rfl rfl hN ?_ | refine AW_fieldAddrg rfl rfl rfl rfl tf_neg rfl rfl ?_ | refine AW_gt rfl rfl rfl ?_ | refine AW_ne rfl rfl rfl ?_
        | refine AW_pickT rfl rfl rfl ?_
        | refine AW_pickF rfl rfl rfl ?_
        | refine AW_skip rfl rfl rfl rfl ?_
        | refine AW_pickTg rfl rfl rfl rfl rfl rfl ?_
        | refine AW_pickFg rfl rfl rfl rfl rfl rfl ?_
        | refine AW_moveg rfl rfl rfl rfl rfl ?_
        | refine AW_notg rfl rfl rfl rfl rfl ?_
        | refine AW_eqg rfl rfl rfl rfl rfl rfl ?_
        | refine AW_eq rfl rfl rfl ?_
        | refine AW_loadg rfl rfl rfl rfl ty_num rfl rfl rfl rfl ?_
        | refine AW_callg rfl rfl rfl rfl rfl (by first | exact kR | exact ct_gzeroF _ (by assumption) | exact kC) ?_
        | refine AW_nil (fun (h : false = true) => by cases h) ?_
        | refine AW_nil (fun (_ : true = true) => by kernel_rfl) ?_
        | refine Wp_block ?_
        | refine Wp_skip ?_
        | refine Wp_exit ?_
        | refine Wp_ret ?_
      exact ⟨r, m, s, n, ⟨hr, hm, hs, hn, m0, n0, Iff.rfl, by unfold joinX; rw [if_neg hlt], rfl⟩, le_of ⟨rfl, rfl, rfl, rfl, rfl, rfl, trivial⟩ ⟨rfl, rfl, rfl, rfl, rfl, rfl, trivial⟩ rfl⟩
  · rintro s' ⟨r1, m2, s1, n2, hJ, hle⟩
    refine Wp_le hle ?_
    clear hle kC hM hN kR e0 m1 n1 m0 n0 hr hm hs hn
    obtain ⟨hr, hm, hs, hn, m0, n0, hj, hx, hl⟩ := hJ
    obtain ⟨g, hg⟩ : ∃ g, gcdZ m2 n2 = g := ⟨_, rfl⟩
    have gp : 0 < g := by rw [← hg]; exact gcdZ_pos (by omega)
    have g0 : g ≠ 0 := by omega
    have gm : g ∣ m2 := by rw [← hg]; exact gcdZ_dvd_left _ _
    have gn : g ∣ n2 := by rw [← hg]; exact gcdZ_dvd_right _ _
    have lg : lc g.natAbs ≤ 1200 := by rw [← hg]; unfold gcdZ; rw [Int.natAbs_natCast]; exact Nat.le_trans (gcd_small hm hn) (by decide)
    have kG := ct_gOf m2 n2 hm hn
    rw [hg] at kG
    have lr : lc (r1 % m2).natAbs ≤ 90 := Nat.le_trans (lc_mono (mod_size m0)) hm
    have ls : lc (s1 % n2).natAbs ≤ 90 := Nat.le_trans (lc_mono (mod_size n0)) hn
    have kA := ct_ModP r1 m2 (by omega) (by omega) m0
    have kB := ct_ModP s1 n2 (by omega) (by omega) n0
    have ld : lc (r1 % m2 - s1 % n2).natAbs ≤ 91 := lc_sub lr ls
    have kD := ct_Sub0 (r1 % m2) (s1 % n2) (by omega) (by omega) (by omega)
    by_cases hjn : joins r m s n
    · have hd : (r1 % m2 - s1 % n2).tmod g = 0 := by rw [← hg]; exact hj.2 hjn
      have kE := ct_Exact0 (r1 % m2 - s1 % n2) g (by omega) lg g0 hd
      have kL := ct_gLcm m2 n2 hm hn
      have eL : lcmR m2 n2 = rawOf (lcmZ m2 n2) := by unfold lcmR; rw [if_neg (by omega)]
      rw [eL, hl] at kL
      have kW := ct_Exact0 m2 g (by omega) lg g0 (Int.tmod_eq_zero_of_dvd gm)
      have kV := ct_Exact0 n2 g (by omega) lg g0 (Int.tmod_eq_zero_of_dvd gn)
      have lw : lc (m2.tdiv g).natAbs ≤ 90 := lc_tdiv hm
      have lv : lc (n2.tdiv g).natAbs ≤ 90 := lc_tdiv hn
      have lD : lc ((r1 % m2 - s1 % n2).tdiv g).natAbs ≤ 91 := lc_tdiv ld
      have hx' := hx
      unfold jX at hx'
      rw [hg] at hx'
      have wp : 0 < m2.tdiv g := by
        have h1 := Int.tdiv_mul_cancel gm
        rcases Int.lt_trichotomy (m2.tdiv g) 0 with h | h | h
        · have := Int.mul_neg_of_neg_of_pos h gp; omega
        · rw [h] at h1; omega
        · exact h
      obtain ⟨W, hW⟩ : ∃ W, m2.tdiv g = W := ⟨_, rfl⟩
      obtain ⟨V, hV⟩ : ∃ V, n2.tdiv g = V := ⟨_, rfl⟩
      obtain ⟨D, hD⟩ : ∃ D, (r1 % m2 - s1 % n2).tdiv g = D := ⟨_, rfl⟩
      rw [hW] at kW lw wp hx'
      rw [hV] at kV lv hx'
      rw [hD] at kE lD hx'
      have kZ := ct_gBezout V W lv lw
      obtain ⟨X, hX⟩ : ∃ X, bzX V W = X := ⟨_, rfl⟩
      have lX : lc X.natAbs ≤ 90 := by rw [← hX]; exact Nat.le_trans (lc_mono (bzX_size (by omega))) lw
      rw [hX] at kZ hx'
      have kF := ct_ModP D W (by omega) (by omega) wp
      have lF : lc (D % W).natAbs ≤ 90 := Nat.le_trans (lc_mono (mod_size wp)) lw
      have kP := ct_Mul0 X (D % W) (by omega) (by omega) (by omega)
      have lP : lc (X * (D % W)).natAbs ≤ 180 := lc_times lX lF
      have kQ := ct_ModP (X * (D % W)) W (by omega) (by omega) wp
      have lQ : lc (X * (D % W) % W).natAbs ≤ 90 := Nat.le_trans (lc_mono (mod_size wp)) lw
      have kT := ct_Mul0 (X * (D % W) % W) n2 (by omega) (by omega) (by omega)
      have lT : lc (X * (D % W) % W * n2).natAbs ≤ 180 := lc_times lQ hn
      have kU := ct_Add0 (X * (D % W) % W * n2) (s1 % n2) (by omega) (by omega) (by have := lc_plus (k := 180) lT (Nat.le_trans ls (by decide)); omega)
      rw [hx'] at kU
      rw [if_pos hjn]
      repeat first
        | refine Wp_seq ?_
        | refine Wp_region tm_mixed ?_
        | refine AW_move rfl rfl ?_
        | refine AW_assign rfl rfl ?_
        | refine AW_load rfl ty_num rfl rfl rfl rfl ?_
        | refine AW_store ty_num rfl rfl rfl rfl rfl rfl rfl ?_
        | refine AW_extract rfl rfl rfl ?_
        | refine AW_alloc rfl tz_num ?_
        | refine AW_box rfl rfl (row := true) rfl (fun h => by cases h) rfl ?_
        | refine AW_not rfl rfl ?_
        | refine AW_build rfl tb_num rfl ?_
        | refine AW_call rfl rfl (by first | exact kA | exact kB | exact kG | exact kD | exact kE | exact kL | exact kW | exact kV | exact kZ | exact kF | exact kP | exact kQ | exact kT | exact kU) ?_
        | refine AW_ints rfl tu_nums ti_num ti_size ti_zero rfl rfl rfl (by first | exact .cons _ _ _ _ _ rfl (.cons _ _ _ _ _ rfl (.nil _)) | exact .cons _ _ _ _ _ rfl (.cons _ _ _ _ _ rfl (.cons _ _ _ _ _ rfl (.cons _ _ _ _ _ rfl (.nil _)))) | exact .cons _ _ _ _ _ rfl (.cons _ _ _ _ _ rfl (.cons _ _ _ _ _ rfl (.nil _))) | exact .cons _ _ _ _ _ rfl (.cons _ _ _ _ _ rfl (.cons _ _ _ _ _ rfl (.cons _ _ _ _ _ rfl (.cons _ _ _ _ _ rfl (.nil _)))))) ?_
        | refine AW_ne rfl rfl rfl ?_
        | refine AW_pickT rfl rfl rfl ?_
        | refine AW_pickF rfl rfl rfl ?_
        | refine AW_skip rfl rfl rfl rfl ?_
        | refine AW_pickTg rfl rfl rfl rfl rfl rfl ?_
        | refine AW_pickFg rfl rfl rfl rfl rfl rfl ?_
        | refine AW_moveg rfl rfl rfl rfl rfl ?_
        | refine AW_notg rfl rfl rfl rfl rfl ?_
        | refine AW_eqg rfl rfl rfl rfl rfl rfl ?_
        | refine AW_eq rfl rfl rfl ?_
        | refine AW_loadg rfl rfl rfl rfl ty_num rfl rfl rfl rfl ?_
        | refine AW_callg rfl rfl rfl rfl rfl (by first | exact kA | exact kB | exact kG | exact kD | exact kE | exact kL | exact kW | exact kV | exact kZ | exact kF | exact kP | exact kQ | exact kT | exact kU) ?_
        | refine AW_nil (fun (h : false = true) => by cases h) ?_
        | refine AW_nil (fun (_ : true = true) => by kernel_rfl) ?_
        | refine Wp_block ?_
        | refine Wp_skip ?_
        | refine Wp_exit ?_
        | refine Wp_ret ?_
      refine Wp_condF rfl ?_
      repeat first
        | refine Wp_seq ?_
        | refine Wp_region tm_mixed ?_
        | refine AW_move rfl rfl ?_
        | refine AW_assign rfl rfl ?_
        | refine AW_load rfl ty_num rfl rfl rfl rfl ?_
        | refine AW_store ty_num rfl rfl rfl rfl rfl rfl rfl ?_
        | refine AW_extract rfl rfl rfl ?_
        | refine AW_alloc rfl tz_num ?_
        | refine AW_box rfl rfl (row := true) rfl (fun h => by cases h) rfl ?_
        | refine AW_not rfl rfl ?_
        | refine AW_build rfl tb_num rfl ?_
        | refine AW_call rfl rfl (by first | exact kA | exact kB | exact kG | exact kD | exact kE | exact kL | exact kW | exact kV | exact kZ | exact kF | exact kP | exact kQ | exact kT | exact kU) ?_
        | refine AW_ints rfl tu_nums ti_num ti_size ti_zero rfl rfl rfl (by first | exact .cons _ _ _ _ _ rfl (.cons _ _ _ _ _ rfl (.nil _)) | exact .cons _ _ _ _ _ rfl (.cons _ _ _ _ _ rfl (.cons _ _ _ _ _ rfl (.cons _ _ _ _ _ rfl (.nil _)))) | exact .cons _ _ _ _ _ rfl (.cons _ _ _ _ _ rfl (.cons _ _ _ _ _ rfl (.nil _))) | exact .cons _ _ _ _ _ rfl (.cons _ _ _ _ _ rfl (.cons _ _ _ _ _ rfl (.cons _ _ _ _ _ rfl (.cons _ _ _ _ _ rfl (.nil _)))))) ?_
        | refine AW_ne rfl rfl rfl ?_
        | refine AW_pickT rfl rfl rfl ?_
        | refine AW_pickF rfl rfl rfl ?_
        | refine AW_skip rfl rfl rfl rfl ?_
        | refine AW_pickTg rfl rfl rfl rfl rfl rfl ?_
        | refine AW_pickFg rfl rfl rfl rfl rfl rfl ?_
        | refine AW_moveg rfl rfl rfl rfl rfl ?_
        | refine AW_notg rfl rfl rfl rfl rfl ?_
        | refine AW_eqg rfl rfl rfl rfl rfl rfl ?_
        | refine AW_eq rfl rfl rfl ?_
        | refine AW_loadg rfl rfl rfl rfl ty_num rfl rfl rfl rfl ?_
        | refine AW_callg rfl rfl rfl rfl rfl (by first | exact kA | exact kB | exact kG | exact kD | exact kE | exact kL | exact kW | exact kV | exact kZ | exact kF | exact kP | exact kQ | exact kT | exact kU) ?_
        | refine AW_nil (fun (h : false = true) => by cases h) ?_
        | refine AW_nil (fun (_ : true = true) => by kernel_rfl) ?_
        | refine Wp_block ?_
        | refine Wp_skip ?_
        | refine Wp_exit ?_
        | refine Wp_ret ?_
      refine Wp_condF rfl ?_
      repeat first
        | refine Wp_seq ?_
        | refine Wp_region tm_mixed ?_
        | refine AW_move rfl rfl ?_
        | refine AW_assign rfl rfl ?_
        | refine AW_load rfl ty_num rfl rfl rfl rfl ?_
        | refine AW_store ty_num rfl rfl rfl rfl rfl rfl rfl ?_
        | refine AW_extract rfl rfl rfl ?_
        | refine AW_alloc rfl tz_num ?_
        | refine AW_box rfl rfl (row := true) rfl (fun h => by cases h) rfl ?_
        | refine AW_not rfl rfl ?_
        | refine AW_build rfl tb_num rfl ?_
        | refine AW_call rfl rfl (by first | exact kA | exact kB | exact kG | exact kD | exact kE | exact kL | exact kW | exact kV | exact kZ | exact kF | exact kP | exact kQ | exact kT | exact kU) ?_
        | refine AW_ints rfl tu_nums ti_num ti_size ti_zero rfl rfl rfl (by first | exact .cons _ _ _ _ _ rfl (.cons _ _ _ _ _ rfl (.nil _)) | exact .cons _ _ _ _ _ rfl (.cons _ _ _ _ _ rfl (.cons _ _ _ _ _ rfl (.cons _ _ _ _ _ rfl (.nil _)))) | exact .cons _ _ _ _ _ rfl (.cons _ _ _ _ _ rfl (.cons _ _ _ _ _ rfl (.nil _))) | exact .cons _ _ _ _ _ rfl (.cons _ _ _ _ _ rfl (.cons _ _ _ _ _ rfl (.cons _ _ _ _ _ rfl (.cons _ _ _ _ _ rfl (.nil _)))))) ?_
        | refine AW_ne rfl rfl rfl ?_
        | refine AW_pickT rfl rfl rfl ?_
        | refine AW_pickF rfl rfl rfl ?_
        | refine AW_skip rfl rfl rfl rfl ?_
        | refine AW_pickTg rfl rfl rfl rfl rfl rfl ?_
        | refine AW_pickFg rfl rfl rfl rfl rfl rfl ?_
        | refine AW_moveg rfl rfl rfl rfl rfl ?_
        | refine AW_notg rfl rfl rfl rfl rfl ?_
        | refine AW_eqg rfl rfl rfl rfl rfl rfl ?_
        | refine AW_eq rfl rfl rfl ?_
        | refine AW_loadg rfl rfl rfl rfl ty_num rfl rfl rfl rfl ?_
        | refine AW_callg rfl rfl rfl rfl rfl (by first | exact kA | exact kB | exact kG | exact kD | exact kE | exact kL | exact kW | exact kV | exact kZ | exact kF | exact kP | exact kQ | exact kT | exact kU) ?_
        | refine AW_nil (fun (h : false = true) => by cases h) ?_
        | refine AW_nil (fun (_ : true = true) => by kernel_rfl) ?_
        | refine Wp_block ?_
        | refine Wp_skip ?_
        | refine Wp_exit ?_
        | refine Wp_ret ?_
      exact ⟨.inr rfl, _, .cell _ _ _ _ _ _ _ _ _ _ _ ty_num rfl rfl rfl (.cell _ _ _ _ _ _ _ _ _ _ _ ty_num rfl rfl rfl (.tmp _ _ _ _ rfl .nil)), rfl⟩
    · have hd : (r1 % m2 - s1 % n2).tmod g ≠ 0 := by rw [← hg]; exact fun h => hjn (hj.1 h)
      have kE := ct_ExactN (r1 % m2 - s1 % n2) g (by omega) lg g0 hd
      rw [if_neg hjn]
      repeat first
        | refine Wp_seq ?_
        | refine Wp_region tm_mixed ?_
        | refine AW_move rfl rfl ?_
        | refine AW_assign rfl rfl ?_
        | refine AW_load rfl ty_num rfl rfl rfl rfl ?_
        | refine AW_store ty_num rfl rfl rfl rfl rfl rfl rfl ?_
        | refine AW_extract rfl rfl rfl ?_
        | refine AW_alloc rfl tz_num ?_
        | refine AW_box rfl rfl (row := true) rfl (fun h => by cases h) rfl ?_
        | refine AW_not rfl rfl ?_
        | refine AW_build rfl tb_num rfl ?_
        | refine AW_call rfl rfl (by first | exact kA | exact kB | exact kG | exact kD | exact kE) ?_
        | refine AW_ints rfl tu_nums ti_num ti_size ti_zero rfl rfl rfl (by first | exact .cons _ _ _ _ _ rfl (.cons _ _ _ _ _ rfl (.nil _)) | exact .cons _ _ _ _ _ rfl (.cons _ _ _ _ _ rfl (.cons _ _ _ _ _ rfl (.cons _ _ _ _ _ rfl (.nil _)))) | exact .cons _ _ _ _ _ rfl (.cons _ _ _ _ _ rfl (.cons _ _ _ _ _ rfl (.nil _))) | exact .cons _ _ _ _ _ rfl (.cons _ _ _ _ _ rfl (.cons _ _ _ _ _ rfl (.cons _ _ _ _ _ rfl (.cons _ _ _ _ _ rfl (.nil _)))))) ?_
  
        | refine AW_pickT rfl rfl rfl ?_
        | refine AW_pickF rfl rfl rfl ?_
        | refine AW_skip rfl rfl rfl rfl ?_
        | refine AW_pickTg rfl rfl rfl rfl rfl rfl ?_
        | refine AW_pickFg rfl rfl rfl rfl rfl rfl ?_
        | refine AW_moveg rfl rfl rfl rfl rfl ?_
        | refine AW_notg rfl rfl rfl rfl rfl ?_
        | refine AW_eqg rfl rfl rfl rfl rfl rfl ?_
        | refine AW_eq rfl rfl rfl ?_
        | refine AW_loadg rfl rfl rfl rfl ty_num rfl rfl rfl rfl ?_
        | refine AW_callg rfl rfl rfl rfl rfl (by first | exact kA | exact kB | exact kG | exact kD | exact kE) ?_
        | refine AW_nil (fun (h : false = true) => by cases h) ?_
        | refine AW_nil (fun (_ : true = true) => by kernel_rfl) ?_
        | refine Wp_block ?_
        | refine Wp_skip ?_
        | refine Wp_exit ?_
        | refine Wp_ret ?_
      refine Wp_condT rfl ?_
      repeat first
        | refine Wp_seq ?_
        | refine Wp_region tm_mixed ?_
        | refine AW_move rfl rfl ?_
        | refine AW_assign rfl rfl ?_
        | refine AW_load rfl ty_num rfl rfl rfl rfl ?_
        | refine AW_store ty_num rfl rfl rfl rfl rfl rfl rfl ?_
        | refine AW_extract rfl rfl rfl ?_
        | refine AW_alloc rfl tz_num ?_
        | refine AW_box rfl rfl (row := true) rfl (fun h => by cases h) rfl ?_
        | refine AW_not rfl rfl ?_
        | refine AW_build rfl tb_num rfl ?_
        | refine AW_call rfl rfl (by first | exact kA | exact kB | exact kG | exact kD | exact kE) ?_
        | refine AW_ints rfl tu_nums ti_num ti_size ti_zero rfl rfl rfl (by first | exact .cons _ _ _ _ _ rfl (.cons _ _ _ _ _ rfl (.nil _)) | exact .cons _ _ _ _ _ rfl (.cons _ _ _ _ _ rfl (.cons _ _ _ _ _ rfl (.cons _ _ _ _ _ rfl (.nil _)))) | exact .cons _ _ _ _ _ rfl (.cons _ _ _ _ _ rfl (.cons _ _ _ _ _ rfl (.nil _))) | exact .cons _ _ _ _ _ rfl (.cons _ _ _ _ _ rfl (.cons _ _ _ _ _ rfl (.cons _ _ _ _ _ rfl (.cons _ _ _ _ _ rfl (.nil _)))))) ?_
  
        | refine AW_pickT rfl rfl rfl ?_
        | refine AW_pickF rfl rfl rfl ?_
        | refine AW_skip rfl rfl rfl rfl ?_
        | refine AW_pickTg rfl rfl rfl rfl rfl rfl ?_
        | refine AW_pickFg rfl rfl rfl rfl rfl rfl ?_
        | refine AW_moveg rfl rfl rfl rfl rfl ?_
        | refine AW_notg rfl rfl rfl rfl rfl ?_
        | refine AW_eqg rfl rfl rfl rfl rfl rfl ?_
        | refine AW_eq rfl rfl rfl ?_
        | refine AW_loadg rfl rfl rfl rfl ty_num rfl rfl rfl rfl ?_
        | refine AW_callg rfl rfl rfl rfl rfl (by first | exact kA | exact kB | exact kG | exact kD | exact kE) ?_
        | refine AW_nil (fun (h : false = true) => by cases h) ?_
        | refine AW_nil (fun (_ : true = true) => by kernel_rfl) ?_
        | refine Wp_block ?_
        | refine Wp_skip ?_
        | refine Wp_exit ?_
        | refine Wp_ret ?_
      exact ⟨.inr rfl, _, .cell _ _ _ _ _ _ _ _ _ _ _ ty_num rfl rfl rfl (.cell _ _ _ _ _ _ _ _ _ _ _ ty_num rfl rfl rfl (.tmp _ _ _ _ rfl .nil)), rfl⟩
end Go.Proofs.YtonbhpadoplpkaaGreat
/- The package rosetteref20, by the abstract machine: size, Gcd, Of, Inverse, Bezout, lcm, Lcm. -/
namespace Go.Proofs.YtonbhpadoplpkaaGreat
open Go.RowKit Go.Deep
/-- The inverse, as the reference reckons it. -/
def invZ (a m : Int) : Int := (eucR true m.natAbs (a % m).natAbs).2.2 % m
set_option maxRecDepth 100000 in
theorem ct_r20size (x : Int) (hx : lc x.natAbs ≤ 68719476736) : Ct Tryz.prog 72 [aZ x] (aZ (x.natAbs : Int)) := by
  refine ct_of_wp [.cell 2 24] [(0, aZ x)] 6 Tryz.func72 rfl rfl rfl rfl rfl rfl rfl rfl ?_
  intro G0 w0
  have k1 := ct_Made false x.natAbs (by omega)
  rw [show signed false x.natAbs = (x.natAbs : Int) from rfl] at k1
  repeat first
    | refine Wp_seq ?_
    | refine Wp_region tm_mixed ?_
    | refine AW_move rfl rfl ?_
    | refine AW_assign rfl rfl ?_
    | refine AW_load rfl ty_num rfl rfl rfl rfl ?_
    | refine AW_store ty_num rfl rfl rfl rfl rfl rfl rfl ?_
    | refine AW_extract rfl rfl rfl ?_
    | refine AW_alloc rfl tz_num ?_
    | refine AW_box rfl rfl (row := true) rfl (fun h => by cases h) rfl ?_
    | refine AW_not rfl rfl ?_
    | refine AW_build rfl tb_num rfl ?_
    | refine AW_call rfl rfl (by first | exact k1) ?_
    | refine AW_ints rfl tu_nums ti_num ti_size ti_zero rfl rfl rfl (by first | exact .cons _ _ _ _ _ rfl (.cons _ _ _ _ _ rfl (.nil _)) | exact .cons _ _ _ _ _ rfl (.cons _ _ _ _ _ rfl (.cons _ _ _ _ _ rfl (.cons _ _ _ _ _ rfl (.nil _)))) | exact .cons _ _ _ _ _ rfl (.cons _ _ _ _ _ rfl (.cons _ _ _ _ _ rfl (.nil _))) | exact .cons _ _ _ _ _ rfl (.cons _ _ _ _ _ rfl (.cons _ _ _ _ _ rfl (.cons _ _ _ _ _ rfl (.cons _ _ _ _ _ rfl (.nil _)))))) ?_
    | refine AW_fieldAddr rfl tf_neg rfl rfl ?_ | refine AW_fieldAddr rfl tf_mag rfl rfl ?_ | refine AW_load rfl ty_bool rfl rfl rfl rfl ?_ | refine AW_load rfl ty_mag rfl rfl rfl rfl ?_ | refine AW_beq rfl Tryz.underlying4 rfl rfl ?_ | refine AW_bne rfl Tryz.underlying4 rfl rfl ?_ | refine AW_len rfl rfl Tryz.underlying22 ?_ | refine AW_ge rfl rfl rfl ?_ | refine AW_gt rfl rfl rfl ?_
    | refine AW_pickT rfl rfl rfl ?_
    | refine AW_pickF rfl rfl rfl ?_
    | refine AW_skip rfl rfl rfl rfl ?_
    | refine AW_pickTg rfl rfl rfl rfl rfl rfl ?_
    | refine AW_pickFg rfl rfl rfl rfl rfl rfl ?_
    | refine AW_moveg rfl rfl rfl rfl rfl ?_
    | refine AW_notg rfl rfl rfl rfl rfl ?_
    | refine AW_eqg rfl rfl rfl rfl rfl rfl ?_
    | refine AW_eq rfl rfl rfl ?_
    | refine AW_loadg rfl rfl rfl rfl ty_num rfl rfl rfl rfl ?_
    | refine AW_callg rfl rfl rfl rfl rfl (by first | exact k1) ?_
    | refine AW_nil (fun (h : false = true) => by cases h) ?_
    | refine AW_nil (fun (_ : true = true) => by kernel_rfl) ?_
    | refine Wp_block ?_
    | refine Wp_skip ?_
    | refine Wp_exit ?_
    | refine Wp_ret ?_
  exact ⟨.inr rfl, _, .cell _ _ _ _ _ _ _ _ _ _ _ ty_num rfl rfl rfl .nil, rfl⟩
set_option maxRecDepth 100000 in
theorem ct_r20Gcd (a b : Int) (ha : lc a.natAbs ≤ 1000000) (hb : lc b.natAbs ≤ 1000000) : Ct Tryz.prog 69 [aZ a, aZ b] (aZ (gcdZ a b)) := by
  refine ct_of_wp [.cell 4 24] [(0, aZ a), (1, aZ b)] 19 Tryz.func69 rfl rfl rfl rfl rfl rfl rfl rfl ?_
  intro G0 w0
  by_cases h0 : a = 0
  · have k1 := ct_IntZeroT a h0
    have k2 := ct_r20size b (by omega)
    have e : gcdZ a b = (b.natAbs : Int) := by rw [h0]; unfold gcdZ; rw [show (0 : Int).natAbs = 0 from rfl, Nat.gcd_zero_left]
    rw [e]
    repeat first
      | refine Wp_seq ?_
      | refine Wp_region tm_mixed ?_
      | refine AW_move rfl rfl ?_
      | refine AW_assign rfl rfl ?_
      | refine AW_load rfl ty_num rfl rfl rfl rfl ?_
      | refine AW_store ty_num rfl rfl rfl rfl rfl rfl rfl ?_
      | refine AW_extract rfl rfl rfl ?_
      | refine AW_alloc rfl tz_num ?_
      | refine AW_box rfl rfl (row := true) rfl (fun h => by cases h) rfl ?_
      | refine AW_not rfl rfl ?_
      | refine AW_build rfl tb_num rfl ?_
      | refine AW_call rfl rfl (by first | exact k1 | exact k2) ?_
      | refine AW_ints rfl tu_nums ti_num ti_size ti_zero rfl rfl rfl (by first | exact .cons _ _ _ _ _ rfl (.cons _ _ _ _ _ rfl (.nil _)) | exact .cons _ _ _ _ _ rfl (.cons _ _ _ _ _ rfl (.cons _ _ _ _ _ rfl (.cons _ _ _ _ _ rfl (.nil _)))) | exact .cons _ _ _ _ _ rfl (.cons _ _ _ _ _ rfl (.cons _ _ _ _ _ rfl (.nil _))) | exact .cons _ _ _ _ _ rfl (.cons _ _ _ _ _ rfl (.cons _ _ _ _ _ rfl (.cons _ _ _ _ _ rfl (.cons _ _ _ _ _ rfl (.nil _)))))) ?_
      | refine AW_fieldAddr rfl tf_neg rfl rfl ?_ | refine AW_fieldAddr rfl tf_mag rfl rfl ?_ | refine AW_load rfl ty_bool rfl rfl rfl rfl ?_ | refine AW_load rfl ty_mag rfl rfl rfl rfl ?_ | refine AW_beq rfl Tryz.underlying4 rfl rfl ?_ | refine AW_bne rfl Tryz.underlying4 rfl rfl ?_ | refine AW_len rfl rfl Tryz.underlying22 ?_ | refine AW_ge rfl rfl rfl ?_ | refine AW_gt rfl rfl rfl ?_
      | refine AW_pickT rfl rfl rfl ?_
      | refine AW_pickF rfl rfl rfl ?_
      | refine AW_skip rfl rfl rfl rfl ?_
      | refine AW_pickTg rfl rfl rfl rfl rfl rfl ?_
      | refine AW_pickFg rfl rfl rfl rfl rfl rfl ?_
      | refine AW_moveg rfl rfl rfl rfl rfl ?_
      | refine AW_notg rfl rfl rfl rfl rfl ?_
      | refine AW_eqg rfl rfl rfl rfl rfl rfl ?_
      | refine AW_eq rfl rfl rfl ?_
      | refine AW_loadg rfl rfl rfl rfl ty_num rfl rfl rfl rfl ?_
      | refine AW_callg rfl rfl rfl rfl rfl (by first | exact k1 | exact k2) ?_
      | refine AW_nil (fun (h : false = true) => by cases h) ?_
      | refine AW_nil (fun (_ : true = true) => by kernel_rfl) ?_
      | refine Wp_block ?_
      | refine Wp_skip ?_
      | refine Wp_exit ?_
      | refine Wp_ret ?_
    refine Wp_condT rfl ?_
    repeat first
      | refine Wp_seq ?_
      | refine Wp_region tm_mixed ?_
      | refine AW_move rfl rfl ?_
      | refine AW_assign rfl rfl ?_
      | refine AW_load rfl ty_num rfl rfl rfl rfl ?_
      | refine AW_store ty_num rfl rfl rfl rfl rfl rfl rfl ?_
      | refine AW_extract rfl rfl rfl ?_
      | refine AW_alloc rfl tz_num ?_
      | refine AW_box rfl rfl (row := true) rfl (fun h => by cases h) rfl ?_
      | refine AW_not rfl rfl ?_
      | refine AW_build rfl tb_num rfl ?_
      | refine AW_call rfl rfl (by first | exact k1 | exact k2) ?_
      | refine AW_ints rfl tu_nums ti_num ti_size ti_zero rfl rfl rfl (by first | exact .cons _ _ _ _ _ rfl (.cons _ _ _ _ _ rfl (.nil _)) | exact .cons _ _ _ _ _ rfl (.cons _ _ _ _ _ rfl (.cons _ _ _ _ _ rfl (.cons _ _ _ _ _ rfl (.nil _)))) | exact .cons _ _ _ _ _ rfl (.cons _ _ _ _ _ rfl (.cons _ _ _ _ _ rfl (.nil _))) | exact .cons _ _ _ _ _ rfl (.cons _ _ _ _ _ rfl (.cons _ _ _ _ _ rfl (.cons _ _ _ _ _ rfl (.cons _ _ _ _ _ rfl (.nil _)))))) ?_
      | refine AW_fieldAddr rfl tf_neg rfl rfl ?_ | refine AW_fieldAddr rfl tf_mag rfl rfl ?_ | refine AW_load rfl ty_bool rfl rfl rfl rfl ?_ | refine AW_load rfl ty_mag rfl rfl rfl rfl ?_ | refine AW_beq rfl Tryz.underlying4 rfl rfl ?_ | refine AW_bne rfl Tryz.underlying4 rfl rfl ?_ | refine AW_len rfl rfl Tryz.underlying22 ?_ | refine AW_ge rfl rfl rfl ?_ | refine AW_gt rfl rfl rfl ?_
      | refine AW_pickT rfl rfl rfl ?_
      | refine AW_pickF rfl rfl rfl ?_
      | refine AW_skip rfl rfl rfl rfl ?_
      | refine AW_pickTg rfl rfl rfl rfl rfl rfl ?_
      | refine AW_pickFg rfl rfl rfl rfl rfl rfl ?_
      | refine AW_moveg rfl rfl rfl rfl rfl ?_
      | refine AW_notg rfl rfl rfl rfl rfl ?_
      | refine AW_eqg rfl rfl rfl rfl rfl rfl ?_
      | refine AW_eq rfl rfl rfl ?_
      | refine AW_loadg rfl rfl rfl rfl ty_num rfl rfl rfl rfl ?_
      | refine AW_callg rfl rfl rfl rfl rfl (by first | exact k1 | exact k2) ?_
      | refine AW_nil (fun (h : false = true) => by cases h) ?_
      | refine AW_nil (fun (_ : true = true) => by kernel_rfl) ?_
      | refine Wp_block ?_
      | refine Wp_skip ?_
      | refine Wp_exit ?_
      | refine Wp_ret ?_
    exact ⟨.inr rfl, _, .cell _ _ _ _ _ _ _ _ _ _ _ ty_num rfl rfl rfl .nil, rfl⟩
  · have k1 := ct_IntZeroF a (by omega) h0
    by_cases h1 : b = 0
    · have k3 := ct_IntZeroT b h1
      have k2 := ct_r20size a (by omega)
      have e : gcdZ a b = (a.natAbs : Int) := by rw [h1]; unfold gcdZ; rw [show (0 : Int).natAbs = 0 from rfl, Nat.gcd_zero_right]
      rw [e]
      repeat first
        | refine Wp_seq ?_
        | refine Wp_region tm_mixed ?_
        | refine AW_move rfl rfl ?_
        | refine AW_assign rfl rfl ?_
        | refine AW_load rfl ty_num rfl rfl rfl rfl ?_
        | refine AW_store ty_num rfl rfl rfl rfl rfl rfl rfl ?_
        | refine AW_extract rfl rfl rfl ?_
        | refine AW_alloc rfl tz_num ?_
        | refine AW_box rfl rfl (row := true) rfl (fun h => by cases h) rfl ?_
        | refine AW_not rfl rfl ?_
        | refine AW_build rfl tb_num rfl ?_
        | refine AW_call rfl rfl (by first | exact k1 | exact k2 | exact k3) ?_
        | refine AW_ints rfl tu_nums ti_num ti_size ti_zero rfl rfl rfl (by first | exact .cons _ _ _ _ _ rfl (.cons _ _ _ _ _ rfl (.nil _)) | exact .cons _ _ _ _ _ rfl (.cons _ _ _ _ _ rfl (.cons _ _ _ _ _ rfl (.cons _ _ _ _ _ rfl (.nil _)))) | exact .cons _ _ _ _ _ rfl (.cons _ _ _ _ _ rfl (.cons _ _ _ _ _ rfl (.nil _))) | exact .cons _ _ _ _ _ rfl (.cons _ _ _ _ _ rfl (.cons _ _ _ _ _ rfl (.cons _ _ _ _ _ rfl (.cons _ _ _ _ _ rfl (.nil _)))))) ?_
        | refine AW_fieldAddr rfl tf_neg rfl rfl ?_ | refine AW_fieldAddr rfl tf_mag rfl rfl ?_ | refine AW_load rfl ty_bool rfl rfl rfl rfl ?_ | refine AW_load rfl ty_mag rfl rfl rfl rfl ?_ | refine AW_beq rfl Tryz.underlying4 rfl rfl ?_ | refine AW_bne rfl Tryz.underlying4 rfl rfl ?_ | refine AW_len rfl rfl Tryz.underlying22 ?_ | refine AW_ge rfl rfl rfl ?_ | refine AW_gt rfl rfl rfl ?_
        | refine AW_pickT rfl rfl rfl ?_
        | refine AW_pickF rfl rfl rfl ?_
        | refine AW_skip rfl rfl rfl rfl ?_
        | refine AW_pickTg rfl rfl rfl rfl rfl rfl ?_
        | refine AW_pickFg rfl rfl rfl rfl rfl rfl ?_
        | refine AW_moveg rfl rfl rfl rfl rfl ?_
        | refine AW_notg rfl rfl rfl rfl rfl ?_
        | refine AW_eqg rfl rfl rfl rfl rfl rfl ?_
        | refine AW_eq rfl rfl rfl ?_
        | refine AW_loadg rfl rfl rfl rfl ty_num rfl rfl rfl rfl ?_
        | refine AW_callg rfl rfl rfl rfl rfl (by first | exact k1 | exact k2 | exact k3) ?_
        | refine AW_nil (fun (h : false = true) => by cases h) ?_
        | refine AW_nil (fun (_ : true = true) => by kernel_rfl) ?_
        | refine Wp_block ?_
        | refine Wp_skip ?_
        | refine Wp_exit ?_
        | refine Wp_ret ?_
      refine Wp_condF rfl ?_
      repeat first
        | refine Wp_seq ?_
        | refine Wp_region tm_mixed ?_
        | refine AW_move rfl rfl ?_
        | refine AW_assign rfl rfl ?_
        | refine AW_load rfl ty_num rfl rfl rfl rfl ?_
        | refine AW_store ty_num rfl rfl rfl rfl rfl rfl rfl ?_
        | refine AW_extract rfl rfl rfl ?_
        | refine AW_alloc rfl tz_num ?_
        | refine AW_box rfl rfl (row := true) rfl (fun h => by cases h) rfl ?_
        | refine AW_not rfl rfl ?_
        | refine AW_build rfl tb_num rfl ?_
        | refine AW_call rfl rfl (by first | exact k1 | exact k2 | exact k3) ?_
        | refine AW_ints rfl tu_nums ti_num ti_size ti_zero rfl rfl rfl (by first | exact .cons _ _ _ _ _ rfl (.cons _ _ _ _ _ rfl (.nil _)) | exact .cons _ _ _ _ _ rfl (.cons _ _ _ _ _ rfl (.cons _ _ _ _ _ rfl (.cons _ _ _ _ _ rfl (.nil _)))) | exact .cons _ _ _ _ _ rfl (.cons _ _ _ _ _ rfl (.cons _ _ _ _ _ rfl (.nil _))) | exact .cons _ _ _ _ _ rfl (.cons _ _ _ _ _ rfl (.cons _ _ _ _ _ rfl (.cons _ _ _ _ _ rfl (.cons _ _ _ _ _ rfl (.nil _)))))) ?_
        | refine AW_fieldAddr rfl tf_neg rfl rfl ?_ | refine AW_fieldAddr rfl tf_mag rfl rfl ?_ | refine AW_load rfl ty_bool rfl rfl rfl rfl ?_ | refine AW_load rfl ty_mag rfl rfl rfl rfl ?_ | refine AW_beq rfl Tryz.underlying4 rfl rfl ?_ | refine AW_bne rfl Tryz.underlying4 rfl rfl ?_ | refine AW_len rfl rfl Tryz.underlying22 ?_ | refine AW_ge rfl rfl rfl ?_ | refine AW_gt rfl rfl rfl ?_
        | refine AW_pickT rfl rfl rfl ?_
        | refine AW_pickF rfl rfl rfl ?_
        | refine AW_skip rfl rfl rfl rfl ?_
        | refine AW_pickTg rfl rfl rfl rfl rfl rfl ?_
        | refine AW_pickFg rfl rfl rfl rfl rfl rfl ?_
        | refine AW_moveg rfl rfl rfl rfl rfl ?_
        | refine AW_notg rfl rfl rfl rfl rfl ?_
        | refine AW_eqg rfl rfl rfl rfl rfl rfl ?_
        | refine AW_eq rfl rfl rfl ?_
        | refine AW_loadg rfl rfl rfl rfl ty_num rfl rfl rfl rfl ?_
        | refine AW_callg rfl rfl rfl rfl rfl (by first | exact k1 | exact k2 | exact k3) ?_
        | refine AW_nil (fun (h : false = true) => by cases h) ?_
        | refine AW_nil (fun (_ : true = true) => by kernel_rfl) ?_
        | refine Wp_block ?_
        | refine Wp_skip ?_
        | refine Wp_exit ?_
        | refine Wp_ret ?_
      refine Wp_condT rfl ?_
      repeat first
        | refine Wp_seq ?_
        | refine Wp_region tm_mixed ?_
        | refine AW_move rfl rfl ?_
        | refine AW_assign rfl rfl ?_
        | refine AW_load rfl ty_num rfl rfl rfl rfl ?_
        | refine AW_store ty_num rfl rfl rfl rfl rfl rfl rfl ?_
        | refine AW_extract rfl rfl rfl ?_
        | refine AW_alloc rfl tz_num ?_
        | refine AW_box rfl rfl (row := true) rfl (fun h => by cases h) rfl ?_
        | refine AW_not rfl rfl ?_
        | refine AW_build rfl tb_num rfl ?_
        | refine AW_call rfl rfl (by first | exact k1 | exact k2 | exact k3) ?_
        | refine AW_ints rfl tu_nums ti_num ti_size ti_zero rfl rfl rfl (by first | exact .cons _ _ _ _ _ rfl (.cons _ _ _ _ _ rfl (.nil _)) | exact .cons _ _ _ _ _ rfl (.cons _ _ _ _ _ rfl (.cons _ _ _ _ _ rfl (.cons _ _ _ _ _ rfl (.nil _)))) | exact .cons _ _ _ _ _ rfl (.cons _ _ _ _ _ rfl (.cons _ _ _ _ _ rfl (.nil _))) | exact .cons _ _ _ _ _ rfl (.cons _ _ _ _ _ rfl (.cons _ _ _ _ _ rfl (.cons _ _ _ _ _ rfl (.cons _ _ _ _ _ rfl (.nil _)))))) ?_
        | refine AW_fieldAddr rfl tf_neg rfl rfl ?_ | refine AW_fieldAddr rfl tf_mag rfl rfl ?_ | refine AW_load rfl ty_bool rfl rfl rfl rfl ?_ | refine AW_load rfl ty_mag rfl rfl rfl rfl ?_ | refine AW_beq rfl Tryz.underlying4 rfl rfl ?_ | refine AW_bne rfl Tryz.underlying4 rfl rfl ?_ | refine AW_len rfl rfl Tryz.underlying22 ?_ | refine AW_ge rfl rfl rfl ?_ | refine AW_gt rfl rfl rfl ?_
        | refine AW_pickT rfl rfl rfl ?_
        | refine AW_pickF rfl rfl rfl ?_
        | refine AW_skip rfl rfl rfl rfl ?_
        | refine AW_pickTg rfl rfl rfl rfl rfl rfl ?_
        | refine AW_pickFg rfl rfl rfl rfl rfl rfl ?_
        | refine AW_moveg rfl rfl rfl rfl rfl ?_
        | refine AW_notg rfl rfl rfl rfl rfl ?_
        | refine AW_eqg rfl rfl rfl rfl rfl rfl ?_
        | refine AW_eq rfl rfl rfl ?_
        | refine AW_loadg rfl rfl rfl rfl ty_num rfl rfl rfl rfl ?_
        | refine AW_callg rfl rfl rfl rfl rfl (by first | exact k1 | exact k2 | exact k3) ?_
        | refine AW_nil (fun (h : false = true) => by cases h) ?_
        | refine AW_nil (fun (_ : true = true) => by kernel_rfl) ?_
        | refine Wp_block ?_
        | refine Wp_skip ?_
        | refine Wp_exit ?_
        | refine Wp_ret ?_
      exact ⟨.inr rfl, _, .cell _ _ _ _ _ _ _ _ _ _ _ ty_num rfl rfl rfl .nil, rfl⟩
    · have k3 := ct_IntZeroF b (by omega) h1
      have k4 := ct_NatGcd a.natAbs b.natAbs ha hb
      have k5 := ct_Made false (Nat.gcd a.natAbs b.natAbs) (by have := gcd_small (k := 1000000) ha hb; omega)
      rw [show signed false (Nat.gcd a.natAbs b.natAbs) = gcdZ a b from rfl] at k5
      repeat first
        | refine Wp_seq ?_
        | refine Wp_region tm_mixed ?_
        | refine AW_move rfl rfl ?_
        | refine AW_assign rfl rfl ?_
        | refine AW_load rfl ty_num rfl rfl rfl rfl ?_
        | refine AW_store ty_num rfl rfl rfl rfl rfl rfl rfl ?_
        | refine AW_extract rfl rfl rfl ?_
        | refine AW_alloc rfl tz_num ?_
        | refine AW_box rfl rfl (row := true) rfl (fun h => by cases h) rfl ?_
        | refine AW_not rfl rfl ?_
        | refine AW_build rfl tb_num rfl ?_
        | refine AW_call rfl rfl (by first | exact k1 | exact k3) ?_
        | refine AW_ints rfl tu_nums ti_num ti_size ti_zero rfl rfl rfl (by first | exact .cons _ _ _ _ _ rfl (.cons _ _ _ _ _ rfl (.nil _)) | exact .cons _ _ _ _ _ rfl (.cons _ _ _ _ _ rfl (.cons _ _ _ _ _ rfl (.cons _ _ _ _ _ rfl (.nil _)))) | exact .cons _ _ _ _ _ rfl (.cons _ _ _ _ _ rfl (.cons _ _ _ _ _ rfl (.nil _))) | exact .cons _ _ _ _ _ rfl (.cons _ _ _ _ _ rfl (.cons _ _ _ _ _ rfl (.cons _ _ _ _ _ rfl (.cons _ _ _ _ _ rfl (.nil _)))))) ?_
        | refine AW_fieldAddr rfl tf_neg rfl rfl ?_ | refine AW_fieldAddr rfl tf_mag rfl rfl ?_ | refine AW_load rfl ty_bool rfl rfl rfl rfl ?_ | refine AW_load rfl ty_mag rfl rfl rfl rfl ?_ | refine AW_beq rfl Tryz.underlying4 rfl rfl ?_ | refine AW_bne rfl Tryz.underlying4 rfl rfl ?_ | refine AW_len rfl rfl Tryz.underlying22 ?_ | refine AW_ge rfl rfl rfl ?_ | refine AW_gt rfl rfl rfl ?_
        | refine AW_pickT rfl rfl rfl ?_
        | refine AW_pickF rfl rfl rfl ?_
        | refine AW_skip rfl rfl rfl rfl ?_
        | refine AW_pickTg rfl rfl rfl rfl rfl rfl ?_
        | refine AW_pickFg rfl rfl rfl rfl rfl rfl ?_
        | refine AW_moveg rfl rfl rfl rfl rfl ?_
        | refine AW_notg rfl rfl rfl rfl rfl ?_
        | refine AW_eqg rfl rfl rfl rfl rfl rfl ?_
        | refine AW_eq rfl rfl rfl ?_
        | refine AW_loadg rfl rfl rfl rfl ty_num rfl rfl rfl rfl ?_
        | refine AW_callg rfl rfl rfl rfl rfl (by first | exact k1 | exact k3) ?_
        | refine AW_nil (fun (h : false = true) => by cases h) ?_
        | refine AW_nil (fun (_ : true = true) => by kernel_rfl) ?_
        | refine Wp_block ?_
        | refine Wp_skip ?_
        | refine Wp_exit ?_
        | refine Wp_ret ?_
      refine Wp_condF rfl ?_
      repeat first
        | refine Wp_seq ?_
        | refine Wp_region tm_mixed ?_
        | refine AW_move rfl rfl ?_
        | refine AW_assign rfl rfl ?_
        | refine AW_load rfl ty_num rfl rfl rfl rfl ?_
        | refine AW_store ty_num rfl rfl rfl rfl rfl rfl rfl ?_
        | refine AW_extract rfl rfl rfl ?_
        | refine AW_alloc rfl tz_num ?_
        | refine AW_box rfl rfl (row := true) rfl (fun h => by cases h) rfl ?_
        | refine AW_not rfl rfl ?_
        | refine AW_build rfl tb_num rfl ?_
        | refine AW_call rfl rfl (by first | exact k1 | exact k3) ?_
        | refine AW_ints rfl tu_nums ti_num ti_size ti_zero rfl rfl rfl (by first | exact .cons _ _ _ _ _ rfl (.cons _ _ _ _ _ rfl (.nil _)) | exact .cons _ _ _ _ _ rfl (.cons _ _ _ _ _ rfl (.cons _ _ _ _ _ rfl (.cons _ _ _ _ _ rfl (.nil _)))) | exact .cons _ _ _ _ _ rfl (.cons _ _ _ _ _ rfl (.cons _ _ _ _ _ rfl (.nil _))) | exact .cons _ _ _ _ _ rfl (.cons _ _ _ _ _ rfl (.cons _ _ _ _ _ rfl (.cons _ _ _ _ _ rfl (.cons _ _ _ _ _ rfl (.nil _)))))) ?_
        | refine AW_fieldAddr rfl tf_neg rfl rfl ?_ | refine AW_fieldAddr rfl tf_mag rfl rfl ?_ | refine AW_load rfl ty_bool rfl rfl rfl rfl ?_ | refine AW_load rfl ty_mag rfl rfl rfl rfl ?_ | refine AW_beq rfl Tryz.underlying4 rfl rfl ?_ | refine AW_bne rfl Tryz.underlying4 rfl rfl ?_ | refine AW_len rfl rfl Tryz.underlying22 ?_ | refine AW_ge rfl rfl rfl ?_ | refine AW_gt rfl rfl rfl ?_
        | refine AW_pickT rfl rfl rfl ?_
        | refine AW_pickF rfl rfl rfl ?_
        | refine AW_skip rfl rfl rfl rfl ?_
        | refine AW_pickTg rfl rfl rfl rfl rfl rfl ?_
        | refine AW_pickFg rfl rfl rfl rfl rfl rfl ?_
        | refine AW_moveg rfl rfl rfl rfl rfl ?_
        | refine AW_notg rfl rfl rfl rfl rfl ?_
        | refine AW_eqg rfl rfl rfl rfl rfl rfl ?_
        | refine AW_eq rfl rfl rfl ?_
        | refine AW_loadg rfl rfl rfl rfl ty_num rfl rfl rfl rfl ?_
        | refine AW_callg rfl rfl rfl rfl rfl (by first | exact k1 | exact k3) ?_
        | refine AW_nil (fun (h : false = true) => by cases h) ?_
        | refine AW_nil (fun (_ : true = true) => by kernel_rfl) ?_
        | refine Wp_block ?_
        | refine Wp_skip ?_
        | refine Wp_exit ?_
        | refine Wp_ret ?_
      refine Wp_condF rfl ?_
      repeat first
        | refine Wp_seq ?_
        | refine Wp_region tm_mixed ?_
        | refine AW_move rfl rfl ?_
        | refine AW_assign rfl rfl ?_
        | refine AW_load rfl ty_num rfl rfl rfl rfl ?_
        | refine AW_store ty_num rfl rfl rfl rfl rfl rfl rfl ?_
        | refine AW_extract rfl rfl rfl ?_
        | refine AW_alloc rfl tz_num ?_
        | refine AW_box rfl rfl (row := true) rfl (fun h => by cases h) rfl ?_
        | refine AW_not rfl rfl ?_
        | refine AW_build rfl tb_num rfl ?_
        | refine AW_call rfl rfl (by first | exact k4 | exact k5) ?_
        | refine AW_ints rfl tu_nums ti_num ti_size ti_zero rfl rfl rfl (by first | exact .cons _ _ _ _ _ rfl (.cons _ _ _ _ _ rfl (.nil _)) | exact .cons _ _ _ _ _ rfl (.cons _ _ _ _ _ rfl (.cons _ _ _ _ _ rfl (.cons _ _ _ _ _ rfl (.nil _)))) | exact .cons _ _ _ _ _ rfl (.cons _ _ _ _ _ rfl (.cons _ _ _ _ _ rfl (.nil _))) | exact .cons _ _ _ _ _ rfl (.cons _ _ _ _ _ rfl (.cons _ _ _ _ _ rfl (.cons _ _ _ _ _ rfl (.cons _ _ _ _ _ rfl (.nil _)))))) ?_
        | refine AW_fieldAddr rfl tf_neg rfl rfl ?_ | refine AW_fieldAddr rfl tf_mag rfl rfl ?_ | refine AW_load rfl ty_bool rfl rfl rfl rfl ?_ | refine AW_load rfl ty_mag rfl rfl rfl rfl ?_ | refine AW_beq rfl Tryz.underlying4 rfl rfl ?_ | refine AW_bne rfl Tryz.underlying4 rfl rfl ?_ | refine AW_len rfl rfl Tryz.underlying22 ?_ | refine AW_ge rfl rfl rfl ?_ | refine AW_gt rfl rfl rfl ?_
        | refine AW_pickT rfl rfl rfl ?_
        | refine AW_pickF rfl rfl rfl ?_
        | refine AW_skip rfl rfl rfl rfl ?_
        | refine AW_pickTg rfl rfl rfl rfl rfl rfl ?_
        | refine AW_pickFg rfl rfl rfl rfl rfl rfl ?_
        | refine AW_moveg rfl rfl rfl rfl rfl ?_
        | refine AW_notg rfl rfl rfl rfl rfl ?_
        | refine AW_eqg rfl rfl rfl rfl rfl rfl ?_
        | refine AW_eq rfl rfl rfl ?_
        | refine AW_loadg rfl rfl rfl rfl ty_num rfl rfl rfl rfl ?_
        | refine AW_callg rfl rfl rfl rfl rfl (by first | exact k4 | exact k5) ?_
        | refine AW_nil (fun (h : false = true) => by cases h) ?_
        | refine AW_nil (fun (_ : true = true) => by kernel_rfl) ?_
        | refine Wp_block ?_
        | refine Wp_skip ?_
        | refine Wp_exit ?_
        | refine Wp_ret ?_
      exact ⟨.inr rfl, _, .cell _ _ _ _ _ _ _ _ _ _ _ ty_num rfl rfl rfl .nil, rfl⟩
set_option maxHeartbeats 1000000 in
set_option maxRecDepth 100000 in
theorem ct_Inverse (a m : Int) (ha : lc a.natAbs ≤ 90) (hm : lc m.natAbs ≤ 90) (m0 : 0 < m) : Ct Tryz.prog 73 [aZ a, aZ m] (aZ (invZ a m)) := by
  refine ct_of_wp [.cell 4 24] [(0, aZ a), (1, aZ m)] 45 Tryz.func73 rfl rfl rfl rfl rfl rfl rfl rfl ?_
  intro G0 w0
  have k1 := ct_IntFloor a m (by omega) (by omega) (by omega)
  have k2 := ct_IntOf 1 (by decide) (by decide)
  have r0 := Int.emod_nonneg a (show m ≠ 0 by omega)
  have er : a.fmod m = ((a % m).natAbs : Int) := by rw [Int.fmod_eq_emod_of_nonneg _ (by omega)]; omega
  have em : m = (m.natAbs : Int) := by omega
  have lR : lc (a % m).natAbs ≤ 90 := Nat.le_trans (lc_mono (mod_size m0)) hm
  rw [er] at k1
  repeat first
    | refine Wp_seq ?_
    | refine Wp_region tm_mixed ?_
    | refine AW_move rfl rfl ?_
    | refine AW_assign rfl rfl ?_
    | refine AW_load rfl ty_num rfl rfl rfl rfl ?_
    | refine AW_store ty_num rfl rfl rfl rfl rfl rfl rfl ?_
    | refine AW_extract rfl rfl rfl ?_
    | refine AW_alloc rfl tz_num ?_
    | refine AW_box rfl rfl (row := true) rfl (fun h => by cases h) rfl ?_
    | refine AW_not rfl rfl ?_
    | refine AW_build rfl tb_num rfl ?_
    | refine AW_call rfl rfl (by first | exact k1 | exact k2) ?_
    | refine AW_ints rfl tu_nums ti_num ti_size ti_zero rfl rfl rfl (by first | exact .cons _ _ _ _ _ rfl (.cons _ _ _ _ _ rfl (.nil _)) | exact .cons _ _ _ _ _ rfl (.cons _ _ _ _ _ rfl (.cons _ _ _ _ _ rfl (.cons _ _ _ _ _ rfl (.nil _)))) | exact .cons _ _ _ _ _ rfl (.cons _ _ _ _ _ rfl (.cons _ _ _ _ _ rfl (.nil _))) | exact .cons _ _ _ _ _ rfl (.cons _ _ _ _ _ rfl (.cons _ _ _ _ _ rfl (.cons _ _ _ _ _ rfl (.cons _ _ _ _ _ rfl (.nil _)))))) ?_
    | refine AW_fieldAddr rfl tf_neg rfl rfl ?_ | refine AW_fieldAddr rfl tf_mag rfl rfl ?_ | refine AW_load rfl ty_bool rfl rfl rfl rfl ?_ | refine AW_load rfl ty_mag rfl rfl rfl rfl ?_ | refine AW_beq rfl Tryz.underlying4 rfl rfl ?_ | refine AW_bne rfl Tryz.underlying4 rfl rfl ?_ | refine AW_len rfl rfl Tryz.underlying22 ?_ | refine AW_ge rfl rfl rfl ?_ | refine AW_gt rfl rfl rfl ?_
    | refine AW_pickT rfl rfl rfl ?_
    | refine AW_pickF rfl rfl rfl ?_
    | refine AW_skip rfl rfl rfl rfl ?_
    | refine AW_pickTg rfl rfl rfl rfl rfl rfl ?_
    | refine AW_pickFg rfl rfl rfl rfl rfl rfl ?_
    | refine AW_moveg rfl rfl rfl rfl rfl ?_
    | refine AW_notg rfl rfl rfl rfl rfl ?_
    | refine AW_eqg rfl rfl rfl rfl rfl rfl ?_
    | refine AW_eq rfl rfl rfl ?_
    | refine AW_loadg rfl rfl rfl rfl ty_num rfl rfl rfl rfl ?_
    | refine AW_callg rfl rfl rfl rfl rfl (by first | exact k1 | exact k2) ?_
    | refine AW_nil (fun (h : false = true) => by cases h) ?_
    | refine AW_nil (fun (_ : true = true) => by kernel_rfl) ?_
    | refine Wp_block ?_
    | refine Wp_skip ?_
    | refine Wp_exit ?_
    | refine Wp_ret ?_
  refine Wp_loop (fun p : GS => ⟨[(3, .val (.one (.ptr 1 0))), (4, .val (.one (.ptr 2 0))), (6, .val (.one (.ptr 4 0))), (7, .val (.one (.ptr 5 0))), (8, .val (.one (.ptr 6 0))), (9, .val (.one (.ptr 7 0)))],
    [(1, 24, [.b (rawOf m).1, .st (magP (rawOf m).2)]), (2, 24, [.b false, .st (magP [])]), (4, 24, [.b p.q3.1, .st (magP p.q3.2)]), (5, 24, [.b p.q2.1, .st (magP p.q2.2)]), (6, 24, [.b p.q5.1, .st (magP p.q5.2)]), (7, 24, [.b p.q0.1, .st (magP p.q0.2)])], 8⟩)
    (fun p => GSok m.natAbs (a % m).natAbs true p) (fun p => p.n1) ⟨m.natAbs, (a % m).natAbs, 1, 0, 0, 1, rawOf m, rawOf 1, (false, []), rawOf ((a % m).natAbs : Int), rawOf 0, rawOf 1⟩
    ⟨congrArg rawOf em, rfl, rawOf_zero.symm, rfl, rfl, rfl, GRow.start _ _ _, rfl⟩ (le_of ⟨rfl, rfl, rfl, rfl, rfl, rfl, trivial⟩ ⟨rfl, rfl, rfl, rfl, rfl, rfl, trivial⟩ rfl) ?_
  rintro ⟨n0, n1, x0, y0, x1, y1, q0, q1, q2, q3, q4, q5⟩ ⟨h0, h1, h2, h3, h4, h5, hg, he⟩
  dsimp only at h0 h1 h2 h3 h4 h5 hg he
  subst h0 h1 h2 h3 h4 h5
  obtain ⟨s0, s1, s2, s3, s4, s5⟩ := hg.small hm lR
  dsimp only
  by_cases hn : n1 = 0
  · subst hn
    have k3 := ct_IntZeroT ((0 : Nat) : Int) rfl
    rw [euc_zero] at he
    have e : invZ a m = y0.fmod m := by unfold invZ; rw [← he, Int.fmod_eq_emod_of_nonneg _ (by omega)]
    have k4 := ct_IntFloor y0 m (by omega) (by omega) (by omega)
    rw [e]
    repeat first
      | refine Wp_seq ?_
      | refine Wp_region tm_mixed ?_
      | refine AW_move rfl rfl ?_
      | refine AW_assign rfl rfl ?_
      | refine AW_load rfl ty_num rfl rfl rfl rfl ?_
      | refine AW_store ty_num rfl rfl rfl rfl rfl rfl rfl ?_
      | refine AW_extract rfl rfl rfl ?_
      | refine AW_alloc rfl tz_num ?_
      | refine AW_box rfl rfl (row := true) rfl (fun h => by cases h) rfl ?_
      | refine AW_not rfl rfl ?_
      | refine AW_build rfl tb_num rfl ?_
      | refine AW_call rfl rfl (by first | exact k3) ?_
      | refine AW_ints rfl tu_nums ti_num ti_size ti_zero rfl rfl rfl (by first | exact .cons _ _ _ _ _ rfl (.cons _ _ _ _ _ rfl (.nil _)) | exact .cons _ _ _ _ _ rfl (.cons _ _ _ _ _ rfl (.cons _ _ _ _ _ rfl (.cons _ _ _ _ _ rfl (.nil _)))) | exact .cons _ _ _ _ _ rfl (.cons _ _ _ _ _ rfl (.cons _ _ _ _ _ rfl (.nil _))) | exact .cons _ _ _ _ _ rfl (.cons _ _ _ _ _ rfl (.cons _ _ _ _ _ rfl (.cons _ _ _ _ _ rfl (.cons _ _ _ _ _ rfl (.nil _)))))) ?_
      | refine AW_fieldAddr rfl tf_neg rfl rfl ?_ | refine AW_fieldAddr rfl tf_mag rfl rfl ?_ | refine AW_load rfl ty_bool rfl rfl rfl rfl ?_ | refine AW_load rfl ty_mag rfl rfl rfl rfl ?_ | refine AW_beq rfl Tryz.underlying4 rfl rfl ?_ | refine AW_bne rfl Tryz.underlying4 rfl rfl ?_ | refine AW_len rfl rfl Tryz.underlying22 ?_ | refine AW_ge rfl rfl rfl ?_ | refine AW_gt rfl rfl rfl ?_
      | refine AW_pickT rfl rfl rfl ?_
      | refine AW_pickF rfl rfl rfl ?_
      | refine AW_skip rfl rfl rfl rfl ?_
      | refine AW_pickTg rfl rfl rfl rfl rfl rfl ?_
      | refine AW_pickFg rfl rfl rfl rfl rfl rfl ?_
      | refine AW_moveg rfl rfl rfl rfl rfl ?_
      | refine AW_notg rfl rfl rfl rfl rfl ?_
      | refine AW_eqg rfl rfl rfl rfl rfl rfl ?_
      | refine AW_eq rfl rfl rfl ?_
      | refine AW_loadg rfl rfl rfl rfl ty_num rfl rfl rfl rfl ?_
      | refine AW_callg rfl rfl rfl rfl rfl (by first | exact k3) ?_
      | refine AW_nil (fun (h : false = true) => by cases h) ?_
      | refine AW_nil (fun (_ : true = true) => by kernel_rfl) ?_
      | refine Wp_block ?_
      | refine Wp_skip ?_
      | refine Wp_exit ?_
      | refine Wp_ret ?_
    refine Wp_condF rfl ?_
    repeat first
      | refine Wp_seq ?_
      | refine Wp_region tm_mixed ?_
      | refine AW_move rfl rfl ?_
      | refine AW_assign rfl rfl ?_
      | refine AW_load rfl ty_num rfl rfl rfl rfl ?_
      | refine AW_store ty_num rfl rfl rfl rfl rfl rfl rfl ?_
      | refine AW_extract rfl rfl rfl ?_
      | refine AW_alloc rfl tz_num ?_
      | refine AW_box rfl rfl (row := true) rfl (fun h => by cases h) rfl ?_
      | refine AW_not rfl rfl ?_
      | refine AW_build rfl tb_num rfl ?_
      | refine AW_call rfl rfl (by first | exact k4) ?_
      | refine AW_ints rfl tu_nums ti_num ti_size ti_zero rfl rfl rfl (by first | exact .cons _ _ _ _ _ rfl (.cons _ _ _ _ _ rfl (.nil _)) | exact .cons _ _ _ _ _ rfl (.cons _ _ _ _ _ rfl (.cons _ _ _ _ _ rfl (.cons _ _ _ _ _ rfl (.nil _)))) | exact .cons _ _ _ _ _ rfl (.cons _ _ _ _ _ rfl (.cons _ _ _ _ _ rfl (.nil _))) | exact .cons _ _ _ _ _ rfl (.cons _ _ _ _ _ rfl (.cons _ _ _ _ _ rfl (.cons _ _ _ _ _ rfl (.cons _ _ _ _ _ rfl (.nil _)))))) ?_
      | refine AW_fieldAddr rfl tf_neg rfl rfl ?_ | refine AW_fieldAddr rfl tf_mag rfl rfl ?_ | refine AW_load rfl ty_bool rfl rfl rfl rfl ?_ | refine AW_load rfl ty_mag rfl rfl rfl rfl ?_ | refine AW_beq rfl Tryz.underlying4 rfl rfl ?_ | refine AW_bne rfl Tryz.underlying4 rfl rfl ?_ | refine AW_len rfl rfl Tryz.underlying22 ?_ | refine AW_ge rfl rfl rfl ?_ | refine AW_gt rfl rfl rfl ?_
      | refine AW_pickT rfl rfl rfl ?_
      | refine AW_pickF rfl rfl rfl ?_
      | refine AW_skip rfl rfl rfl rfl ?_
      | refine AW_pickTg rfl rfl rfl rfl rfl rfl ?_
      | refine AW_pickFg rfl rfl rfl rfl rfl rfl ?_
      | refine AW_moveg rfl rfl rfl rfl rfl ?_
      | refine AW_notg rfl rfl rfl rfl rfl ?_
      | refine AW_eqg rfl rfl rfl rfl rfl rfl ?_
      | refine AW_eq rfl rfl rfl ?_
      | refine AW_loadg rfl rfl rfl rfl ty_num rfl rfl rfl rfl ?_
      | refine AW_callg rfl rfl rfl rfl rfl (by first | exact k4) ?_
      | refine AW_nil (fun (h : false = true) => by cases h) ?_
      | refine AW_nil (fun (_ : true = true) => by kernel_rfl) ?_
      | refine Wp_block ?_
      | refine Wp_skip ?_
      | refine Wp_exit ?_
      | refine Wp_ret ?_
    exact ⟨.inr rfl, _, .cell _ _ _ _ _ _ _ _ _ _ _ ty_num rfl rfl rfl .nil, rfl⟩
  · have k3 := ct_IntZeroF (n1 : Int) (by rw [Int.natAbs_natCast]; omega) (by omega)
    have k4 := ct_IntFloor (n0 : Int) (n1 : Int) (by rw [Int.natAbs_natCast]; omega) (by rw [Int.natAbs_natCast]; omega) (by omega)
    rw [show (n0 : Int).fdiv (n1 : Int) = ((n0 / n1 : Nat) : Int) by rw [Int.fdiv_eq_ediv_of_nonneg _ (by omega)]; rfl, show (n0 : Int).fmod (n1 : Int) = ((n0 % n1 : Nat) : Int) by rw [Int.fmod_eq_emod_of_nonneg _ (by omega)]; rfl] at k4
    have sq : lc ((n0 / n1 : Nat) : Int).natAbs ≤ 90 := by rw [Int.natAbs_natCast]; exact Nat.le_trans (lc_mono (Nat.div_le_self _ _)) s0
    have k5 := ct_IntTimes ((n0 / n1 : Nat) : Int) y1 (by omega) (by omega)
    have k6 := ct_IntLess y0 (((n0 / n1 : Nat) : Int) * y1) (by omega) (by have := lc_times sq s5; omega)
    have hg2 := hg.step hn
    rw [euc_step _ _ _ _ _ _ _ hn] at he
    rw [if_pos rfl, if_pos rfl] at hg2 he
    repeat first
      | refine Wp_seq ?_
      | refine Wp_region tm_mixed ?_
      | refine AW_move rfl rfl ?_
      | refine AW_assign rfl rfl ?_
      | refine AW_load rfl ty_num rfl rfl rfl rfl ?_
      | refine AW_store ty_num rfl rfl rfl rfl rfl rfl rfl ?_
      | refine AW_extract rfl rfl rfl ?_
      | refine AW_alloc rfl tz_num ?_
      | refine AW_box rfl rfl (row := true) rfl (fun h => by cases h) rfl ?_
      | refine AW_not rfl rfl ?_
      | refine AW_build rfl tb_num rfl ?_
      | refine AW_call rfl rfl (by first | exact k3) ?_
      | refine AW_ints rfl tu_nums ti_num ti_size ti_zero rfl rfl rfl (by first | exact .cons _ _ _ _ _ rfl (.cons _ _ _ _ _ rfl (.nil _)) | exact .cons _ _ _ _ _ rfl (.cons _ _ _ _ _ rfl (.cons _ _ _ _ _ rfl (.cons _ _ _ _ _ rfl (.nil _)))) | exact .cons _ _ _ _ _ rfl (.cons _ _ _ _ _ rfl (.cons _ _ _ _ _ rfl (.nil _))) | exact .cons _ _ _ _ _ rfl (.cons _ _ _ _ _ rfl (.cons _ _ _ _ _ rfl (.cons _ _ _ _ _ rfl (.cons _ _ _ _ _ rfl (.nil _)))))) ?_
      | refine AW_fieldAddr rfl tf_neg rfl rfl ?_ | refine AW_fieldAddr rfl tf_mag rfl rfl ?_ | refine AW_load rfl ty_bool rfl rfl rfl rfl ?_ | refine AW_load rfl ty_mag rfl rfl rfl rfl ?_ | refine AW_beq rfl Tryz.underlying4 rfl rfl ?_ | refine AW_bne rfl Tryz.underlying4 rfl rfl ?_ | refine AW_len rfl rfl Tryz.underlying22 ?_ | refine AW_ge rfl rfl rfl ?_ | refine AW_gt rfl rfl rfl ?_
      | refine AW_pickT rfl rfl rfl ?_
      | refine AW_pickF rfl rfl rfl ?_
      | refine AW_skip rfl rfl rfl rfl ?_
      | refine AW_pickTg rfl rfl rfl rfl rfl rfl ?_
      | refine AW_pickFg rfl rfl rfl rfl rfl rfl ?_
      | refine AW_moveg rfl rfl rfl rfl rfl ?_
      | refine AW_notg rfl rfl rfl rfl rfl ?_
      | refine AW_eqg rfl rfl rfl rfl rfl rfl ?_
      | refine AW_eq rfl rfl rfl ?_
      | refine AW_loadg rfl rfl rfl rfl ty_num rfl rfl rfl rfl ?_
      | refine AW_callg rfl rfl rfl rfl rfl (by first | exact k3) ?_
      | refine AW_nil (fun (h : false = true) => by cases h) ?_
      | refine AW_nil (fun (_ : true = true) => by kernel_rfl) ?_
      | refine Wp_block ?_
      | refine Wp_skip ?_
      | refine Wp_exit ?_
      | refine Wp_ret ?_
    refine Wp_condT rfl ?_
    repeat first
      | refine Wp_seq ?_
      | refine Wp_region tm_mixed ?_
      | refine AW_move rfl rfl ?_
      | refine AW_assign rfl rfl ?_
      | refine AW_load rfl ty_num rfl rfl rfl rfl ?_
      | refine AW_store ty_num rfl rfl rfl rfl rfl rfl rfl ?_
      | refine AW_extract rfl rfl rfl ?_
      | refine AW_alloc rfl tz_num ?_
      | refine AW_box rfl rfl (row := true) rfl (fun h => by cases h) rfl ?_
      | refine AW_not rfl rfl ?_
      | refine AW_build rfl tb_num rfl ?_
      | refine AW_call rfl rfl (by first | exact k4 | exact k5 | exact k6) ?_
      | refine AW_ints rfl tu_nums ti_num ti_size ti_zero rfl rfl rfl (by first | exact .cons _ _ _ _ _ rfl (.cons _ _ _ _ _ rfl (.nil _)) | exact .cons _ _ _ _ _ rfl (.cons _ _ _ _ _ rfl (.cons _ _ _ _ _ rfl (.cons _ _ _ _ _ rfl (.nil _)))) | exact .cons _ _ _ _ _ rfl (.cons _ _ _ _ _ rfl (.cons _ _ _ _ _ rfl (.nil _))) | exact .cons _ _ _ _ _ rfl (.cons _ _ _ _ _ rfl (.cons _ _ _ _ _ rfl (.cons _ _ _ _ _ rfl (.cons _ _ _ _ _ rfl (.nil _)))))) ?_
      | refine AW_fieldAddr rfl tf_neg rfl rfl ?_ | refine AW_fieldAddr rfl tf_mag rfl rfl ?_ | refine AW_load rfl ty_bool rfl rfl rfl rfl ?_ | refine AW_load rfl ty_mag rfl rfl rfl rfl ?_ | refine AW_beq rfl Tryz.underlying4 rfl rfl ?_ | refine AW_bne rfl Tryz.underlying4 rfl rfl ?_ | refine AW_len rfl rfl Tryz.underlying22 ?_ | refine AW_ge rfl rfl rfl ?_ | refine AW_gt rfl rfl rfl ?_
      | refine AW_pickT rfl rfl rfl ?_
      | refine AW_pickF rfl rfl rfl ?_
      | refine AW_skip rfl rfl rfl rfl ?_
      | refine AW_pickTg rfl rfl rfl rfl rfl rfl ?_
      | refine AW_pickFg rfl rfl rfl rfl rfl rfl ?_
      | refine AW_moveg rfl rfl rfl rfl rfl ?_
      | refine AW_notg rfl rfl rfl rfl rfl ?_
      | refine AW_eqg rfl rfl rfl rfl rfl rfl ?_
      | refine AW_eq rfl rfl rfl ?_
      | refine AW_loadg rfl rfl rfl rfl ty_num rfl rfl rfl rfl ?_
      | refine AW_callg rfl rfl rfl rfl rfl (by first | exact k4 | exact k5 | exact k6) ?_
      | refine AW_nil (fun (h : false = true) => by cases h) ?_
      | refine AW_nil (fun (_ : true = true) => by kernel_rfl) ?_
      | refine Wp_block ?_
      | refine Wp_skip ?_
      | refine Wp_exit ?_
      | refine Wp_ret ?_
    exact ⟨⟨n1, n0 % n1, x1, y1, x0 - ((n0 / n1 : Nat) : Int) * x1, y0 - ((n0 / n1 : Nat) : Int) * y1, rawOf (n1 : Int), rawOf x1, rawOf y1, rawOf ((n0 % n1 : Nat) : Int), rawOf (x0 - ((n0 / n1 : Nat) : Int) * x1), rawOf (y0 - ((n0 / n1 : Nat) : Int) * y1)⟩, ⟨rfl, rfl, rfl, rfl, rfl, rfl, hg2, he⟩, le_of ⟨rfl, rfl, rfl, rfl, rfl, rfl, trivial⟩ ⟨rfl, rfl, rfl, rfl, rfl, rfl, trivial⟩ rfl, Nat.mod_lt _ (Nat.pos_of_ne_zero hn)⟩
/-! ### the inverse is one -/
theorem inv_unique {u x y m : Int} (hm : 0 < m) (hx0 : 0 ≤ x) (hx : x < m) (hy0 : 0 ≤ y) (hy : y < m) (h1 : m ∣ u * x - 1) (h2 : m ∣ u * y - 1) : x = y := by
  have h3 : m ∣ x - y := by
    have e : x - y = y * (u * x - 1) - x * (u * y - 1) := by
      rw [Int.mul_sub, Int.mul_sub, ← Int.mul_assoc, ← Int.mul_assoc, Int.mul_comm y u, Int.mul_assoc u y x, Int.mul_comm y x, ← Int.mul_assoc, Int.mul_comm x u]
      omega
    rw [e]
    exact Int.dvd_sub (Int.dvd_mul_of_dvd_right h1) (Int.dvd_mul_of_dvd_right h2)
  obtain ⟨k, hk⟩ := h3
  rcases Int.lt_trichotomy k 0 with h | h | h
  · have : m * k ≤ m * (-1) := Int.mul_le_mul_of_nonneg_left (by omega) (by omega)
    omega
  · subst h; omega
  · have : m * 1 ≤ m * k := Int.mul_le_mul_of_nonneg_left (by omega) (by omega)
    omega
theorem invZ_spec (a m : Int) (h0 : 0 < m) : 0 ≤ invZ a m ∧ invZ a m < m ∧ m ∣ a * invZ a m - gcdZ a m := by
  unfold invZ
  obtain ⟨x2, y2, h⟩ := eucR_row true m.natAbs (a % m).natAbs
  have h1 := h.made0 rfl
  rw [eucR_gcd] at h1
  obtain ⟨Y, hY⟩ : ∃ Y, (eucR true m.natAbs (a % m).natAbs).2.2 = Y := ⟨_, rfl⟩
  obtain ⟨X, hX⟩ : ∃ X, (eucR true m.natAbs (a % m).natAbs).2.1 = X := ⟨_, rfl⟩
  rw [hX, hY] at h1
  rw [hY]
  refine ⟨Int.emod_nonneg _ (by omega), Int.emod_lt_of_pos _ h0, ?_⟩
  have r0 := Int.emod_nonneg a (show m ≠ 0 by omega)
  have eg : ((Nat.gcd m.natAbs (a % m).natAbs : Nat) : Int) = gcdZ a m := by
    unfold gcdZ
    congr 1
    have h2 : m * (a / m) + a % m = a := Int.mul_ediv_add_emod a m
    refine Nat.dvd_antisymm (Nat.dvd_gcd ?_ (Nat.gcd_dvd_left _ _)) (Nat.dvd_gcd (Nat.gcd_dvd_right _ _) ?_)
    · have d1 := Int.ofNat_dvd_left.2 (Nat.gcd_dvd_left m.natAbs (a % m).natAbs)
      have d2 := Int.ofNat_dvd_left.2 (Nat.gcd_dvd_right m.natAbs (a % m).natAbs)
      refine Int.ofNat_dvd_left.1 ?_
      have d3 := Int.dvd_add (Int.dvd_trans d1 (Int.dvd_mul_right m (a / m))) d2
      rwa [h2] at d3
    · have d1 := Int.ofNat_dvd_left.2 (Nat.gcd_dvd_left a.natAbs m.natAbs)
      have d2 := Int.ofNat_dvd_left.2 (Nat.gcd_dvd_right a.natAbs m.natAbs)
      refine Int.ofNat_dvd_left.1 ?_
      have d3 := Int.dvd_sub d1 (Int.dvd_trans d2 (Int.dvd_mul_right m (a / m)))
      rwa [show a - m * (a / m) = a % m by omega] at d3
  rw [eg, show (m.natAbs : Int) = m by omega, show ((a % m).natAbs : Int) = a % m by omega] at h1
  have h2 : a * (Y % m) - gcdZ a m = m * (-(a * (Y / m)) + a / m * Y - X) := by
    have e1 : m * (Y / m) + Y % m = Y := Int.mul_ediv_add_emod Y m
    have e2 : m * (a / m) + a % m = a := Int.mul_ediv_add_emod a m
    have e3 : Y % m = Y - m * (Y / m) := by omega
    have e4 : a % m = a - m * (a / m) := by omega
    rw [e4] at h1
    rw [e3, ← h1, Int.mul_sub, Int.sub_mul, Int.mul_sub, Int.mul_add, Int.mul_neg, ← Int.mul_assoc a m, Int.mul_comm a m, Int.mul_assoc m a, ← Int.mul_assoc m (a / m) Y]
    omega
  rw [h2]
  exact Int.dvd_mul_right _ _
theorem bzX_spec {a b : Int} (hb : b ≠ 0) : 0 ≤ bzX a b ∧ bzX a b < bM a b ∧ b ∣ gcdZ a b - a * bzX a b := by
  have hp := bM_pos (a := a) hb
  have e : bzX a b = eX a b % bM a b := by unfold bzX; rw [if_neg hb]
  rw [e]
  refine ⟨Int.emod_nonneg _ (by omega), Int.emod_lt_of_pos _ hp, ?_⟩
  have h1 := e_made a b
  have h2 : bM a b * (eX a b / bM a b) + eX a b % bM a b = eX a b := Int.mul_ediv_add_emod _ _
  have h3 : eX a b % bM a b = eX a b - bM a b * (eX a b / bM a b) := by omega
  have h4 := bT_mul (a := a) hb
  refine ⟨eY a b + bT a b * (eX a b / bM a b), ?_⟩
  rw [h3, ← h1, Int.mul_sub, Int.mul_add, ← Int.mul_assoc b, h4, Int.mul_assoc]
  omega
theorem bM_eq {a b : Int} (hb : b ≠ 0) : bM a b = ((b.natAbs : Int)).fdiv (gcdZ a b) := by
  have hg := gcdZ_pos (a := a) hb
  rw [Int.fdiv_eq_ediv_of_nonneg _ (by omega)]
  have h := bM_mul a b
  rw [← h, Int.mul_ediv_cancel _ (by omega)]
theorem gcdZ_self {a b : Int} (hb : b ≠ 0) : gcdZ (a.fdiv (gcdZ a b)) (bM a b) = 1 := by
  have hg := gcdZ_pos (a := a) hb
  have e1 : (a.fdiv (gcdZ a b)).natAbs = a.natAbs / Nat.gcd a.natAbs b.natAbs := by
    obtain ⟨k, hk⟩ := gcdZ_dvd_left a b
    have : a.fdiv (gcdZ a b) = k := by
      rw [Int.fdiv_eq_ediv_of_nonneg _ (by omega)]
      conv => lhs; arg 1; rw [hk]
      exact Int.mul_ediv_cancel_left _ (by omega)
    rw [this]
    have hkn : a.natAbs = Nat.gcd a.natAbs b.natAbs * k.natAbs := by
      have := congrArg Int.natAbs hk
      rw [Int.natAbs_mul] at this
      exact this
    have hgn : 0 < Nat.gcd a.natAbs b.natAbs := by have : (0 : Int) < ((Nat.gcd a.natAbs b.natAbs : Nat) : Int) := hg; omega
    conv => rhs; arg 1; rw [hkn]
    rw [Nat.mul_div_cancel_left _ hgn]
  have hgn : 0 < Nat.gcd a.natAbs b.natAbs := by have : (0 : Int) < ((Nat.gcd a.natAbs b.natAbs : Nat) : Int) := hg; omega
  unfold gcdZ bM at *
  rw [e1, Int.natAbs_natCast, Nat.gcd_div_gcd_div_gcd_of_pos_right (show 0 < b.natAbs by omega)]
  rfl
theorem invZ_bzX {a b : Int} (hb : b ≠ 0) : invZ (a.fdiv (gcdZ a b)) (bM a b) = bzX a b := by
  have hp := bM_pos (a := a) hb
  have hg := gcdZ_pos (a := a) hb
  obtain ⟨i0, i1, i2⟩ := invZ_spec (a.fdiv (gcdZ a b)) (bM a b) hp
  rw [gcdZ_self hb] at i2
  obtain ⟨b0, b1, b2⟩ := bzX_spec (a := a) hb
  refine inv_unique hp i0 i1 b0 b1 i2 ?_
  obtain ⟨k, hk⟩ := gcdZ_dvd_left a b
  obtain ⟨u, hu⟩ : ∃ u, a.fdiv (gcdZ a b) = u := ⟨_, rfl⟩
  have hua : gcdZ a b * u = a := by
    rw [← hu, Int.fdiv_eq_ediv_of_nonneg _ (by omega)]
    exact Int.mul_ediv_cancel' (gcdZ_dvd_left a b)
  rw [hu]
  have hm := bM_mul a b
  have h3 : (b.natAbs : Int) ∣ gcdZ a b - a * bzX a b := by
    obtain ⟨c, hc⟩ := b2
    by_cases h : b < 0
    · exact ⟨-c, by rw [hc, show (b.natAbs : Int) = -b by omega, Int.neg_mul_neg]⟩
    · exact ⟨c, by rw [hc, show (b.natAbs : Int) = b by omega]⟩
  rw [← hm] at h3
  obtain ⟨c, hc⟩ := h3
  refine ⟨-c, ?_⟩
  refine Int.eq_of_mul_eq_mul_left (show gcdZ a b ≠ 0 by omega) ?_
  have e : gcdZ a b * (u * bzX a b - 1) = a * bzX a b - gcdZ a b := by rw [Int.mul_sub, ← Int.mul_assoc, hua, Int.mul_one]
  rw [e, show a * bzX a b - gcdZ a b = -(gcdZ a b - a * bzX a b) by omega, hc, ← Int.mul_assoc, Int.mul_neg, Int.mul_comm (gcdZ a b) (bM a b)]
set_option maxHeartbeats 1000000 in
set_option maxRecDepth 100000 in
theorem ct_r20Bezout (a b : Int) (ha : lc a.natAbs ≤ 90) (hb : lc b.natAbs ≤ 90) : Ct Tryz.prog 31 [aZ a, aZ b] (.tup [zZ (gcdZ a b), zZ (bzX a b), zZ (bzY a b), aI 0]) := by
  refine ct_of_wp [.cell 4 24, .cell 5 24, .cell 6 24, .tmp 7] [(0, aZ a), (1, aZ b)] 66 Tryz.func31 rfl rfl rfl rfl rfl rfl rfl rfl ?_
  intro G0 w0
  have k1 := ct_IntRight (rawOf a)
  have k2 := ct_IntRight (rawOf b)
  have k3 := ct_r20Gcd a b (by omega) (by omega)
  rw [right_raw (by omega)] at k1 k2
  have lg : lc (gcdZ a b).natAbs ≤ 90 := by unfold gcdZ; rw [Int.natAbs_natCast]; exact gcd_small ha hb
  by_cases h0 : b = 0
  · have k4 := ct_IntZeroT b h0
    have k5 := ct_IntSign a (by omega)
    have hs : Int.sign a = 0 ∨ Int.sign a = 1 ∨ Int.sign a = -1 := by
      rcases Int.lt_trichotomy a 0 with h | h | h
      · rw [Int.sign_eq_neg_one_of_neg h]; omega
      · subst h; exact .inl rfl
      · rw [Int.sign_eq_one_of_pos h]; omega
    have k6 := ct_IntOf (Int.sign a) (by omega) (by omega)
    have eX : bzX a b = Int.sign a := by unfold bzX; rw [if_pos h0]
    have eY : bzY a b = 0 := by unfold bzY; rw [if_pos h0]
    rw [eX, eY, zZ_zero]
    repeat first
      | refine Wp_seq ?_
      | refine Wp_region tm_mixed ?_
      | refine AW_move rfl rfl ?_
      | refine AW_assign rfl rfl ?_
      | refine AW_load rfl ty_num rfl rfl rfl rfl ?_
      | refine AW_store ty_num rfl rfl rfl rfl rfl rfl rfl ?_
      | refine AW_extract rfl rfl rfl ?_
      | refine AW_alloc rfl tz_num ?_
      | refine AW_box rfl rfl (row := true) rfl (fun h => by cases h) rfl ?_
      | refine AW_not rfl rfl ?_
      | refine AW_build rfl tb_num rfl ?_
      | refine AW_call rfl rfl (by first | exact k1 | exact k2) ?_
      | refine AW_ints rfl tu_nums ti_num ti_size ti_zero rfl rfl rfl (by first | exact .cons _ _ _ _ _ rfl (.cons _ _ _ _ _ rfl (.nil _)) | exact .cons _ _ _ _ _ rfl (.cons _ _ _ _ _ rfl (.cons _ _ _ _ _ rfl (.cons _ _ _ _ _ rfl (.nil _)))) | exact .cons _ _ _ _ _ rfl (.cons _ _ _ _ _ rfl (.cons _ _ _ _ _ rfl (.nil _))) | exact .cons _ _ _ _ _ rfl (.cons _ _ _ _ _ rfl (.cons _ _ _ _ _ rfl (.cons _ _ _ _ _ rfl (.cons _ _ _ _ _ rfl (.nil _)))))) ?_
      | refine AW_fieldAddr rfl tf_neg rfl rfl ?_ | refine AW_fieldAddr rfl tf_mag rfl rfl ?_ | refine AW_load rfl ty_bool rfl rfl rfl rfl ?_ | refine AW_load rfl ty_mag rfl rfl rfl rfl ?_ | refine AW_beq rfl Tryz.underlying4 rfl rfl ?_ | refine AW_bne rfl Tryz.underlying4 rfl rfl ?_ | refine AW_len rfl rfl Tryz.underlying22 ?_ | refine AW_ge rfl rfl rfl ?_ | refine AW_gt rfl rfl rfl ?_
      | refine AW_pickT rfl rfl rfl ?_
      | refine AW_pickF rfl rfl rfl ?_
      | refine AW_skip rfl rfl rfl rfl ?_
      | refine AW_pickTg rfl rfl rfl rfl rfl rfl ?_
      | refine AW_pickFg rfl rfl rfl rfl rfl rfl ?_
      | refine AW_moveg rfl rfl rfl rfl rfl ?_
      | refine AW_notg rfl rfl rfl rfl rfl ?_
      | refine AW_eqg rfl rfl rfl rfl rfl rfl ?_
      | refine AW_eq rfl rfl rfl ?_
      | refine AW_loadg rfl rfl rfl rfl ty_num rfl rfl rfl rfl ?_
      | refine AW_callg rfl rfl rfl rfl rfl (by first | exact k1 | exact k2) ?_
      | refine AW_nil (fun (h : false = true) => by cases h) ?_
      | refine AW_nil (fun (_ : true = true) => by kernel_rfl) ?_
      | refine Wp_block ?_
      | refine Wp_skip ?_
      | refine Wp_exit ?_
      | refine Wp_ret ?_
    refine Wp_condF rfl ?_
    repeat first
      | refine Wp_seq ?_
      | refine Wp_region tm_mixed ?_
      | refine AW_move rfl rfl ?_
      | refine AW_assign rfl rfl ?_
      | refine AW_load rfl ty_num rfl rfl rfl rfl ?_
      | refine AW_store ty_num rfl rfl rfl rfl rfl rfl rfl ?_
      | refine AW_extract rfl rfl rfl ?_
      | refine AW_alloc rfl tz_num ?_
      | refine AW_box rfl rfl (row := true) rfl (fun h => by cases h) rfl ?_
      | refine AW_not rfl rfl ?_
      | refine AW_build rfl tb_num rfl ?_
      | refine AW_call rfl rfl (by first | exact k3 | exact k4) ?_
      | refine AW_ints rfl tu_nums ti_num ti_size ti_zero rfl rfl rfl (by first | exact .cons _ _ _ _ _ rfl (.cons _ _ _ _ _ rfl (.nil _)) | exact .cons _ _ _ _ _ rfl (.cons _ _ _ _ _ rfl (.cons _ _ _ _ _ rfl (.cons _ _ _ _ _ rfl (.nil _)))) | exact .cons _ _ _ _ _ rfl (.cons _ _ _ _ _ rfl (.cons _ _ _ _ _ rfl (.nil _))) | exact .cons _ _ _ _ _ rfl (.cons _ _ _ _ _ rfl (.cons _ _ _ _ _ rfl (.cons _ _ _ _ _ rfl (.cons _ _ _ _ _ rfl (.nil _)))))) ?_
      | refine AW_fieldAddr rfl tf_neg rfl rfl ?_ | refine AW_fieldAddr rfl tf_mag rfl rfl ?_ | refine AW_load rfl ty_bool rfl rfl rfl rfl ?_ | refine AW_load rfl ty_mag rfl rfl rfl rfl ?_ | refine AW_beq rfl Tryz.underlying4 rfl rfl ?_ | refine AW_bne rfl Tryz.underlying4 rfl rfl ?_ | refine AW_len rfl rfl Tryz.underlying22 ?_ | refine AW_ge rfl rfl rfl ?_ | refine AW_gt rfl rfl rfl ?_
      | refine AW_pickT rfl rfl rfl ?_
      | refine AW_pickF rfl rfl rfl ?_
      | refine AW_skip rfl rfl rfl rfl ?_
      | refine AW_pickTg rfl rfl rfl rfl rfl rfl ?_
      | refine AW_pickFg rfl rfl rfl rfl rfl rfl ?_
      | refine AW_moveg rfl rfl rfl rfl rfl ?_
      | refine AW_notg rfl rfl rfl rfl rfl ?_
      | refine AW_eqg rfl rfl rfl rfl rfl rfl ?_
      | refine AW_eq rfl rfl rfl ?_
      | refine AW_loadg rfl rfl rfl rfl ty_num rfl rfl rfl rfl ?_
      | refine AW_callg rfl rfl rfl rfl rfl (by first | exact k3 | exact k4) ?_
      | refine AW_nil (fun (h : false = true) => by cases h) ?_
      | refine AW_nil (fun (_ : true = true) => by kernel_rfl) ?_
      | refine Wp_block ?_
      | refine Wp_skip ?_
      | refine Wp_exit ?_
      | refine Wp_ret ?_
    refine Wp_condT rfl ?_
    repeat first
      | refine Wp_seq ?_
      | refine Wp_region tm_mixed ?_
      | refine AW_move rfl rfl ?_
      | refine AW_assign rfl rfl ?_
      | refine AW_load rfl ty_num rfl rfl rfl rfl ?_
      | refine AW_store ty_num rfl rfl rfl rfl rfl rfl rfl ?_
      | refine AW_extract rfl rfl rfl ?_
      | refine AW_alloc rfl tz_num ?_
      | refine AW_box rfl rfl (row := true) rfl (fun h => by cases h) rfl ?_
      | refine AW_not rfl rfl ?_
      | refine AW_build rfl tb_num rfl ?_
      | refine AW_call rfl rfl (by first | exact k5 | exact k6) ?_
      | refine AW_ints rfl tu_nums ti_num ti_size ti_zero rfl rfl rfl (by first | exact .cons _ _ _ _ _ rfl (.cons _ _ _ _ _ rfl (.nil _)) | exact .cons _ _ _ _ _ rfl (.cons _ _ _ _ _ rfl (.cons _ _ _ _ _ rfl (.cons _ _ _ _ _ rfl (.nil _)))) | exact .cons _ _ _ _ _ rfl (.cons _ _ _ _ _ rfl (.cons _ _ _ _ _ rfl (.nil _))) | exact .cons _ _ _ _ _ rfl (.cons _ _ _ _ _ rfl (.cons _ _ _ _ _ rfl (.cons _ _ _ _ _ rfl (.cons _ _ _ _ _ rfl (.nil _)))))) ?_
      | refine AW_fieldAddr rfl tf_neg rfl rfl ?_ | refine AW_fieldAddr rfl tf_mag rfl rfl ?_ | refine AW_load rfl ty_bool rfl rfl rfl rfl ?_ | refine AW_load rfl ty_mag rfl rfl rfl rfl ?_ | refine AW_beq rfl Tryz.underlying4 rfl rfl ?_ | refine AW_bne rfl Tryz.underlying4 rfl rfl ?_ | refine AW_len rfl rfl Tryz.underlying22 ?_ | refine AW_ge rfl rfl rfl ?_ | refine AW_gt rfl rfl rfl ?_
      | refine AW_pickT rfl rfl rfl ?_
      | refine AW_pickF rfl rfl rfl ?_
      | refine AW_skip rfl rfl rfl rfl ?_
      | refine AW_pickTg rfl rfl rfl rfl rfl rfl ?_
      | refine AW_pickFg rfl rfl rfl rfl rfl rfl ?_
      | refine AW_moveg rfl rfl rfl rfl rfl ?_
      | refine AW_notg rfl rfl rfl rfl rfl ?_
      | refine AW_eqg rfl rfl rfl rfl rfl rfl ?_
      | refine AW_eq rfl rfl rfl ?_
      | refine AW_loadg rfl rfl rfl rfl ty_num rfl rfl rfl rfl ?_
      | refine AW_callg rfl rfl rfl rfl rfl (by first | exact k5 | exact k6) ?_
      | refine AW_nil (fun (h : false = true) => by cases h) ?_
      | refine AW_nil (fun (_ : true = true) => by kernel_rfl) ?_
      | refine Wp_block ?_
      | refine Wp_skip ?_
      | refine Wp_exit ?_
      | refine Wp_ret ?_
    exact ⟨.inr rfl, _, .cell _ _ _ _ _ _ _ _ _ _ _ ty_num rfl rfl rfl (.cell _ _ _ _ _ _ _ _ _ _ _ ty_num rfl rfl rfl (.cell _ _ _ _ _ _ _ _ _ _ _ ty_num rfl rfl rfl (.tmp _ _ _ _ rfl .nil))), rfl⟩
  · have k4 := ct_IntZeroF b (by omega) h0
    have gp := gcdZ_pos (a := a) h0
    have k5 := ct_IntFloor a (gcdZ a b) (by omega) (by omega) (by omega)
    have k6 := ct_r20size b (by omega)
    have k7 := ct_IntFloor (b.natAbs : Int) (gcdZ a b) (by rw [Int.natAbs_natCast]; omega) (by omega) (by omega)
    rw [← bM_eq h0] at k7
    have lu : lc (a.fdiv (gcdZ a b)).natAbs ≤ 90 := by
      rw [Int.fdiv_eq_ediv_of_nonneg _ (by omega)]
      obtain ⟨k, hk⟩ := gcdZ_dvd_left a b
      have : (a / gcdZ a b).natAbs ≤ a.natAbs := Int.natAbs_ediv_le_natAbs a (gcdZ a b)
      exact Nat.le_trans (lc_mono this) ha
    have lm : lc (bM a b).natAbs ≤ 90 := Nat.le_trans (lc_mono (bM_le a b)) hb
    have k8 := ct_Inverse (a.fdiv (gcdZ a b)) (bM a b) lu lm (bM_pos h0)
    rw [invZ_bzX h0] at k8
    have lx : lc (bzX a b).natAbs ≤ 90 := Nat.le_trans (lc_mono (bzX_size h0)) hb
    have k9 := ct_IntTimes a (bzX a b) (by omega) (by omega)
    have lp : lc (a * bzX a b).natAbs ≤ 180 := lc_times ha lx
    have kA := ct_IntLess (gcdZ a b) (a * bzX a b) (by omega) (by omega)
    have ls : lc (gcdZ a b - a * bzX a b).natAbs ≤ 181 := lc_sub (k := 180) (by omega) lp
    have kB := ct_IntFloor (gcdZ a b - a * bzX a b) b (by omega) (by omega) h0
    have eY : (gcdZ a b - a * bzX a b).fdiv b = bzY a b := by
      unfold bzY
      rw [if_neg h0]
      obtain ⟨c, hc⟩ := (bzX_spec (a := a) h0).2.2
      rw [hc, Int.mul_fdiv_cancel_left _ h0, Int.mul_tdiv_cancel_left _ h0]
    rw [eY] at kB
    repeat first
      | refine Wp_seq ?_
      | refine Wp_region tm_mixed ?_
      | refine AW_move rfl rfl ?_
      | refine AW_assign rfl rfl ?_
      | refine AW_load rfl ty_num rfl rfl rfl rfl ?_
      | refine AW_store ty_num rfl rfl rfl rfl rfl rfl rfl ?_
      | refine AW_extract rfl rfl rfl ?_
      | refine AW_alloc rfl tz_num ?_
      | refine AW_box rfl rfl (row := true) rfl (fun h => by cases h) rfl ?_
      | refine AW_not rfl rfl ?_
      | refine AW_build rfl tb_num rfl ?_
      | refine AW_call rfl rfl (by first | exact k1 | exact k2) ?_
      | refine AW_ints rfl tu_nums ti_num ti_size ti_zero rfl rfl rfl (by first | exact .cons _ _ _ _ _ rfl (.cons _ _ _ _ _ rfl (.nil _)) | exact .cons _ _ _ _ _ rfl (.cons _ _ _ _ _ rfl (.cons _ _ _ _ _ rfl (.cons _ _ _ _ _ rfl (.nil _)))) | exact .cons _ _ _ _ _ rfl (.cons _ _ _ _ _ rfl (.cons _ _ _ _ _ rfl (.nil _))) | exact .cons _ _ _ _ _ rfl (.cons _ _ _ _ _ rfl (.cons _ _ _ _ _ rfl (.cons _ _ _ _ _ rfl (.cons _ _ _ _ _ rfl (.nil _)))))) ?_
      | refine AW_fieldAddr rfl tf_neg rfl rfl ?_ | refine AW_fieldAddr rfl tf_mag rfl rfl ?_ | refine AW_load rfl ty_bool rfl rfl rfl rfl ?_ | refine AW_load rfl ty_mag rfl rfl rfl rfl ?_ | refine AW_beq rfl Tryz.underlying4 rfl rfl ?_ | refine AW_bne rfl Tryz.underlying4 rfl rfl ?_ | refine AW_len rfl rfl Tryz.underlying22 ?_ | refine AW_ge rfl rfl rfl ?_ | refine AW_gt rfl rfl rfl ?_
      | refine AW_pickT rfl rfl rfl ?_
      | refine AW_pickF rfl rfl rfl ?_
      | refine AW_skip rfl rfl rfl rfl ?_
      | refine AW_pickTg rfl rfl rfl rfl rfl rfl ?_
      | refine AW_pickFg rfl rfl rfl rfl rfl rfl ?_
      | refine AW_moveg rfl rfl rfl rfl rfl ?_
      | refine AW_notg rfl rfl rfl rfl rfl ?_
      | refine AW_eqg rfl rfl rfl rfl rfl rfl ?_
      | refine AW_eq rfl rfl rfl ?_
      | refine AW_loadg rfl rfl rfl rfl ty_num rfl rfl rfl rfl ?_
      | refine AW_callg rfl rfl rfl rfl rfl (by first | exact k1 | exact k2) ?_
      | refine AW_nil (fun (h : false = true) => by cases h) ?_
      | refine AW_nil (fun (_ : true = true) => by kernel_rfl) ?_
      | refine Wp_block ?_
      | refine Wp_skip ?_
      | refine Wp_exit ?_
      | refine Wp_ret ?_
    refine Wp_condF rfl ?_
    repeat first
      | refine Wp_seq ?_
      | refine Wp_region tm_mixed ?_
      | refine AW_move rfl rfl ?_
      | refine AW_assign rfl rfl ?_
      | refine AW_load rfl ty_num rfl rfl rfl rfl ?_
      | refine AW_store ty_num rfl rfl rfl rfl rfl rfl rfl ?_
      | refine AW_extract rfl rfl rfl ?_
      | refine AW_alloc rfl tz_num ?_
      | refine AW_box rfl rfl (row := true) rfl (fun h => by cases h) rfl ?_
      | refine AW_not rfl rfl ?_
      | refine AW_build rfl tb_num rfl ?_
      | refine AW_call rfl rfl (by first | exact k3 | exact k4) ?_
      | refine AW_ints rfl tu_nums ti_num ti_size ti_zero rfl rfl rfl (by first | exact .cons _ _ _ _ _ rfl (.cons _ _ _ _ _ rfl (.nil _)) | exact .cons _ _ _ _ _ rfl (.cons _ _ _ _ _ rfl (.cons _ _ _ _ _ rfl (.cons _ _ _ _ _ rfl (.nil _)))) | exact .cons _ _ _ _ _ rfl (.cons _ _ _ _ _ rfl (.cons _ _ _ _ _ rfl (.nil _))) | exact .cons _ _ _ _ _ rfl (.cons _ _ _ _ _ rfl (.cons _ _ _ _ _ rfl (.cons _ _ _ _ _ rfl (.cons _ _ _ _ _ rfl (.nil _)))))) ?_
      | refine AW_fieldAddr rfl tf_neg rfl rfl ?_ | refine AW_fieldAddr rfl tf_mag rfl rfl ?_ | refine AW_load rfl ty_bool rfl rfl rfl rfl ?_ | refine AW_load rfl ty_mag rfl rfl rfl rfl ?_ | refine AW_beq rfl Tryz.underlying4 rfl rfl ?_ | refine AW_bne rfl Tryz.underlying4 rfl rfl ?_ | refine AW_len rfl rfl Tryz.underlying22 ?_ | refine AW_ge rfl rfl rfl ?_ | refine AW_gt rfl rfl rfl ?_
      | refine AW_pickT rfl rfl rfl ?_
      | refine AW_pickF rfl rfl rfl ?_
      | refine AW_skip rfl rfl rfl rfl ?_
      | refine AW_pickTg rfl rfl rfl rfl rfl rfl ?_
      | refine AW_pickFg rfl rfl rfl rfl rfl rfl ?_
      | refine AW_moveg rfl rfl rfl rfl rfl ?_
      | refine AW_notg rfl rfl rfl rfl rfl ?_
      | refine AW_eqg rfl rfl rfl rfl rfl rfl ?_
      | refine AW_eq rfl rfl rfl ?_
      | refine AW_loadg rfl rfl rfl rfl ty_num rfl rfl rfl rfl ?_
      | refine AW_callg rfl rfl rfl rfl rfl (by first | exact k3 | exact k4) ?_
      | refine AW_nil (fun (h : false = true) => by cases h) ?_
      | refine AW_nil (fun (_ : true = true) => by kernel_rfl) ?_
      | refine Wp_block ?_
      | refine Wp_skip ?_
      | refine Wp_exit ?_
      | refine Wp_ret ?_
    refine Wp_condF rfl ?_
    repeat first
      | refine Wp_seq ?_
      | refine Wp_region tm_mixed ?_
      | refine AW_move rfl rfl ?_
      | refine AW_assign rfl rfl ?_
      | refine AW_load rfl ty_num rfl rfl rfl rfl ?_
      | refine AW_store ty_num rfl rfl rfl rfl rfl rfl rfl ?_
      | refine AW_extract rfl rfl rfl ?_
      | refine AW_alloc rfl tz_num ?_
      | refine AW_box rfl rfl (row := true) rfl (fun h => by cases h) rfl ?_
      | refine AW_not rfl rfl ?_
      | refine AW_build rfl tb_num rfl ?_
      | refine AW_call rfl rfl (by first | exact k5 | exact k6 | exact k7 | exact k8 | exact k9 | exact kA | exact kB) ?_
      | refine AW_ints rfl tu_nums ti_num ti_size ti_zero rfl rfl rfl (by first | exact .cons _ _ _ _ _ rfl (.cons _ _ _ _ _ rfl (.nil _)) | exact .cons _ _ _ _ _ rfl (.cons _ _ _ _ _ rfl (.cons _ _ _ _ _ rfl (.cons _ _ _ _ _ rfl (.nil _)))) | exact .cons _ _ _ _ _ rfl (.cons _ _ _ _ _ rfl (.cons _ _ _ _ _ rfl (.nil _))) | exact .cons _ _ _ _ _ rfl (.cons _ _ _ _ _ rfl (.cons _ _ _ _ _ rfl (.cons _ _ _ _ _ rfl (.cons _ _ _ _ _ rfl (.nil _)))))) ?_
      | refine AW_fieldAddr rfl tf_neg rfl rfl ?_ | refine AW_fieldAddr rfl tf_mag rfl rfl ?_ | refine AW_load rfl ty_bool rfl rfl rfl rfl ?_ | refine AW_load rfl ty_mag rfl rfl rfl rfl ?_ | refine AW_beq rfl Tryz.underlying4 rfl rfl ?_ | refine AW_bne rfl Tryz.underlying4 rfl rfl ?_ | refine AW_len rfl rfl Tryz.underlying22 ?_ | refine AW_ge rfl rfl rfl ?_ | refine AW_gt rfl rfl rfl ?_
      | refine AW_pickT rfl rfl rfl ?_
      | refine AW_pickF rfl rfl rfl ?_
      | refine AW_skip rfl rfl rfl rfl ?_
      | refine AW_pickTg rfl rfl rfl rfl rfl rfl ?_
      | refine AW_pickFg rfl rfl rfl rfl rfl rfl ?_
      | refine AW_moveg rfl rfl rfl rfl rfl ?_
      | refine AW_notg rfl rfl rfl rfl rfl ?_
      | refine AW_eqg rfl rfl rfl rfl rfl rfl ?_
      | refine AW_eq rfl rfl rfl ?_
      | refine AW_loadg rfl rfl rfl rfl ty_num rfl rfl rfl rfl ?_
      | refine AW_callg rfl rfl rfl rfl rfl (by first | exact k5 | exact k6 | exact k7 | exact k8 | exact k9 | exact kA | exact kB) ?_
      | refine AW_nil (fun (h : false = true) => by cases h) ?_
      | refine AW_nil (fun (_ : true = true) => by kernel_rfl) ?_
      | refine Wp_block ?_
      | refine Wp_skip ?_
      | refine Wp_exit ?_
      | refine Wp_ret ?_
    exact ⟨.inr rfl, _, .cell _ _ _ _ _ _ _ _ _ _ _ ty_num rfl rfl rfl (.cell _ _ _ _ _ _ _ _ _ _ _ ty_num rfl rfl rfl (.cell _ _ _ _ _ _ _ _ _ _ _ ty_num rfl rfl rfl (.tmp _ _ _ _ rfl .nil))), rfl⟩
set_option maxRecDepth 100000 in
theorem ct_r20lcm (a b : Int) (ha : lc a.natAbs ≤ 90) (hb : lc b.natAbs ≤ 90) (h0 : b ≠ 0) : Ct Tryz.prog 76 [aZ a, aZ b] (aZ (lcmZ a b)) := by
  refine ct_of_wp [.cell 4 24] [(0, aZ a), (1, aZ b)] 20 Tryz.func76 rfl rfl rfl rfl rfl rfl rfl rfl ?_
  intro G0 w0
  have k1 := ct_r20size b (by omega)
  have k2 := ct_r20size a (by omega)
  have k3 := ct_r20Gcd a b (by omega) (by omega)
  have lg : lc (gcdZ a b).natAbs ≤ 90 := by unfold gcdZ; rw [Int.natAbs_natCast]; exact gcd_small ha hb
  have gp := gcdZ_pos (a := a) h0
  have k4 := ct_IntFloor (b.natAbs : Int) (gcdZ a b) (by rw [Int.natAbs_natCast]; omega) (by omega) (by omega)
  rw [← bM_eq h0] at k4
  have lm : lc (bM a b).natAbs ≤ 90 := Nat.le_trans (lc_mono (bM_le a b)) hb
  have k5 := ct_IntTimes (a.natAbs : Int) (bM a b) (by rw [Int.natAbs_natCast]; omega) (by omega)
  repeat first
    | refine Wp_seq ?_
    | refine Wp_region tm_mixed ?_
    | refine AW_move rfl rfl ?_
    | refine AW_assign rfl rfl ?_
    | refine AW_load rfl ty_num rfl rfl rfl rfl ?_
    | refine AW_store ty_num rfl rfl rfl rfl rfl rfl rfl ?_
    | refine AW_extract rfl rfl rfl ?_
    | refine AW_alloc rfl tz_num ?_
    | refine AW_box rfl rfl (row := true) rfl (fun h => by cases h) rfl ?_
    | refine AW_not rfl rfl ?_
    | refine AW_build rfl tb_num rfl ?_
    | refine AW_call rfl rfl (by first | exact k1 | exact k2 | exact k3 | exact k4 | exact k5) ?_
    | refine AW_ints rfl tu_nums ti_num ti_size ti_zero rfl rfl rfl (by first | exact .cons _ _ _ _ _ rfl (.cons _ _ _ _ _ rfl (.nil _)) | exact .cons _ _ _ _ _ rfl (.cons _ _ _ _ _ rfl (.cons _ _ _ _ _ rfl (.cons _ _ _ _ _ rfl (.nil _)))) | exact .cons _ _ _ _ _ rfl (.cons _ _ _ _ _ rfl (.cons _ _ _ _ _ rfl (.nil _))) | exact .cons _ _ _ _ _ rfl (.cons _ _ _ _ _ rfl (.cons _ _ _ _ _ rfl (.cons _ _ _ _ _ rfl (.cons _ _ _ _ _ rfl (.nil _)))))) ?_
    | refine AW_fieldAddr rfl tf_neg rfl rfl ?_ | refine AW_fieldAddr rfl tf_mag rfl rfl ?_ | refine AW_load rfl ty_bool rfl rfl rfl rfl ?_ | refine AW_load rfl ty_mag rfl rfl rfl rfl ?_ | refine AW_beq rfl Tryz.underlying4 rfl rfl ?_ | refine AW_bne rfl Tryz.underlying4 rfl rfl ?_ | refine AW_len rfl rfl Tryz.underlying22 ?_ | refine AW_ge rfl rfl rfl ?_ | refine AW_gt rfl rfl rfl ?_
    | refine AW_pickT rfl rfl rfl ?_
    | refine AW_pickF rfl rfl rfl ?_
    | refine AW_skip rfl rfl rfl rfl ?_
    | refine AW_pickTg rfl rfl rfl rfl rfl rfl ?_
    | refine AW_pickFg rfl rfl rfl rfl rfl rfl ?_
    | refine AW_moveg rfl rfl rfl rfl rfl ?_
    | refine AW_notg rfl rfl rfl rfl rfl ?_
    | refine AW_eqg rfl rfl rfl rfl rfl rfl ?_
    | refine AW_eq rfl rfl rfl ?_
    | refine AW_loadg rfl rfl rfl rfl ty_num rfl rfl rfl rfl ?_
    | refine AW_callg rfl rfl rfl rfl rfl (by first | exact k1 | exact k2 | exact k3 | exact k4 | exact k5) ?_
    | refine AW_nil (fun (h : false = true) => by cases h) ?_
    | refine AW_nil (fun (_ : true = true) => by kernel_rfl) ?_
    | refine Wp_block ?_
    | refine Wp_skip ?_
    | refine Wp_exit ?_
    | refine Wp_ret ?_
  exact ⟨.inr rfl, _, .cell _ _ _ _ _ _ _ _ _ _ _ ty_num rfl rfl rfl .nil, rfl⟩
end Go.Proofs.YtonbhpadoplpkaaGreat
/- The law of layer 20, by the abstract machine: of, long, awake, GcdTells. -/
namespace Go.Proofs.YtonbhpadoplpkaaGreat
open Go.RowKit Go.Deep
set_option maxRecDepth 100000 in
theorem ct_law20of (n : Int) (h1 : -9223372036854775808 ≤ n) (h2 : n < 9223372036854775808) : Ct Tryz.prog 42 [.val (aI n)] (aZ n) := by
  refine ct_of_wp [.cell 2 24] [(0, .val (aI n))] 5 Tryz.func42 rfl rfl rfl rfl rfl rfl rfl rfl ?_
  intro G0 w0
  have k1 := ct_IntOf n h1 h2
  repeat first
    | refine Wp_seq ?_
    | refine Wp_region tm_mixed ?_
    | refine AW_move rfl rfl ?_
    | refine AW_assign rfl rfl ?_
    | refine AW_load rfl ty_num rfl rfl rfl rfl ?_
    | refine AW_store ty_num rfl rfl rfl rfl rfl rfl rfl ?_
    | refine AW_extract rfl rfl rfl ?_
    | refine AW_alloc rfl tz_num ?_
    | refine AW_box rfl rfl (row := true) rfl (fun h => by cases h) rfl ?_
    | refine AW_not rfl rfl ?_
    | refine AW_build rfl tb_num rfl ?_
    | refine AW_call rfl rfl (by first | exact k1) ?_
    | refine AW_ints rfl tu_nums ti_num ti_size ti_zero rfl rfl rfl (by first | exact .cons _ _ _ _ _ rfl (.cons _ _ _ _ _ rfl (.nil _)) | exact .cons _ _ _ _ _ rfl (.cons _ _ _ _ _ rfl (.cons _ _ _ _ _ rfl (.cons _ _ _ _ _ rfl (.nil _)))) | exact .cons _ _ _ _ _ rfl (.cons _ _ _ _ _ rfl (.cons _ _ _ _ _ rfl (.nil _))) | exact .cons _ _ _ _ _ rfl (.cons _ _ _ _ _ rfl (.cons _ _ _ _ _ rfl (.cons _ _ _ _ _ rfl (.cons _ _ _ _ _ rfl (.nil _)))))) ?_
    | refine AW_fieldAddr rfl tf_neg rfl rfl ?_ | refine AW_fieldAddr rfl tf_mag rfl rfl ?_ | refine AW_load rfl ty_bool rfl rfl rfl rfl ?_ | refine AW_load rfl ty_mag rfl rfl rfl rfl ?_ | refine AW_beq rfl Tryz.underlying4 rfl rfl ?_ | refine AW_bne rfl Tryz.underlying4 rfl rfl ?_ | refine AW_len rfl rfl Tryz.underlying22 ?_ | refine AW_ge rfl rfl rfl ?_ | refine AW_gt rfl rfl rfl ?_
    | refine AW_pickT rfl rfl rfl ?_
    | refine AW_pickF rfl rfl rfl ?_
    | refine AW_skip rfl rfl rfl rfl ?_
    | refine AW_pickTg rfl rfl rfl rfl rfl rfl ?_
    | refine AW_pickFg rfl rfl rfl rfl rfl rfl ?_
    | refine AW_moveg rfl rfl rfl rfl rfl ?_
    | refine AW_notg rfl rfl rfl rfl rfl ?_
    | refine AW_eqg rfl rfl rfl rfl rfl rfl ?_
    | refine AW_eq rfl rfl rfl ?_
    | refine AW_loadg rfl rfl rfl rfl ty_num rfl rfl rfl rfl ?_
    | refine AW_callg rfl rfl rfl rfl rfl (by first | exact k1) ?_
    | refine AW_nil (fun (h : false = true) => by cases h) ?_
    | refine AW_nil (fun (_ : true = true) => by kernel_rfl) ?_
    | refine Wp_block ?_
    | refine Wp_skip ?_
    | refine Wp_exit ?_
    | refine Wp_ret ?_
  exact ⟨.inr rfl, _, .cell _ _ _ _ _ _ _ _ _ _ _ ty_num rfl rfl rfl .nil, rfl⟩
theorem lc_one {x : Int} (h : x.natAbs < W64) : lc x.natAbs ≤ 1 := lc_le.2 (by rw [Nat.pow_one]; exact h)
theorem lc_few {x : Int} (h : x.natAbs ≤ 1000000) : lc x.natAbs ≤ 90 := Nat.le_trans (lc_one (by rw [W64_eq]; omega)) (by omega)
def long16 (xs : List Raw) : Bool := xs.any fun x => decide ((16 : Int) < (x.2.length : Int))
theorem long16_take {xs : List Raw} {k : Nat} {x : Raw} (hx : xs[k]? = some x) : long16 (xs.take (k + 1)) = (long16 (xs.take k) || decide ((16 : Int) < (x.2.length : Int))) := by
  have hk := (List.getElem?_eq_some_iff.1 hx)
  unfold long16
  rw [List.take_succ_eq_append_getElem hk.1, List.any_append, hk.2]; simp
set_option maxRecDepth 100000 in
theorem ct_law20long (xs : List Raw) (hl : xs.length ≤ 1000) : Ct Tryz.prog 26 [.val (.one (.st (polyP xs)))] (.val (aB (long16 xs))) := by
  refine ct_of_wp [.tmp 2] [(0, .val (.one (.st (polyP xs))))] 17 Tryz.func26 rfl rfl rfl rfl rfl rfl rfl rfl ?_
  intro G0 w0
  have k1 := ct_Right (false, [])
  repeat first
    | refine Wp_seq ?_
    | refine Wp_region tm_mixed ?_
    | refine AW_move rfl rfl ?_
    | refine AW_assign rfl rfl ?_
    | refine AW_load rfl ty_num rfl rfl rfl rfl ?_
    | refine AW_store ty_num rfl rfl rfl rfl rfl rfl rfl ?_
    | refine AW_extract rfl rfl rfl ?_
    | refine AW_alloc rfl tz_num ?_
    | refine AW_box rfl rfl (row := true) rfl (fun h => by cases h) rfl ?_
    | refine AW_not rfl rfl ?_
    | refine AW_build rfl tb_num rfl ?_
    | refine AW_call rfl rfl (by first | exact k1) ?_
    | refine AW_ints rfl tu_nums ti_num ti_size ti_zero rfl rfl rfl (by first | exact .cons _ _ _ _ _ rfl (.cons _ _ _ _ _ rfl (.nil _)) | exact .cons _ _ _ _ _ rfl (.cons _ _ _ _ _ rfl (.cons _ _ _ _ _ rfl (.cons _ _ _ _ _ rfl (.nil _)))) | exact .cons _ _ _ _ _ rfl (.cons _ _ _ _ _ rfl (.cons _ _ _ _ _ rfl (.nil _))) | exact .cons _ _ _ _ _ rfl (.cons _ _ _ _ _ rfl (.cons _ _ _ _ _ rfl (.cons _ _ _ _ _ rfl (.cons _ _ _ _ _ rfl (.nil _)))))) ?_
    | refine AW_fieldAddr rfl tf_neg rfl rfl ?_ | refine AW_fieldAddr rfl tf_mag rfl rfl ?_ | refine AW_load rfl ty_bool rfl rfl rfl rfl ?_ | refine AW_load rfl ty_mag rfl rfl rfl rfl ?_ | refine AW_beq rfl Tryz.underlying4 rfl rfl ?_ | refine AW_bne rfl Tryz.underlying4 rfl rfl ?_ | refine AW_len rfl rfl Tryz.underlying22 ?_ | refine AW_ge rfl rfl rfl ?_ | refine AW_gt rfl rfl rfl ?_
    | refine AW_pickT rfl rfl rfl ?_
    | refine AW_pickF rfl rfl rfl ?_
    | refine AW_skip rfl rfl rfl rfl ?_
    | refine AW_pickTg rfl rfl rfl rfl rfl rfl ?_
    | refine AW_pickFg rfl rfl rfl rfl rfl rfl ?_
    | refine AW_moveg rfl rfl rfl rfl rfl ?_
    | refine AW_notg rfl rfl rfl rfl rfl ?_
    | refine AW_eqg rfl rfl rfl rfl rfl rfl ?_
    | refine AW_eq rfl rfl rfl ?_
    | refine AW_loadg rfl rfl rfl rfl ty_num rfl rfl rfl rfl ?_
    | refine AW_callg rfl rfl rfl rfl rfl (by first | exact k1) ?_
    | refine AW_nil (fun (h : false = true) => by cases h) ?_
    | refine AW_nil (fun (_ : true = true) => by kernel_rfl) ?_
    | refine Wp_block ?_
    | refine Wp_skip ?_
    | refine Wp_exit ?_
    | refine Wp_ret ?_
  refine Wp_loop (fun k : Nat => ⟨[(0, .val (.one (.st (polyP xs)))), (3, .val (aI (k : Int)))], [], 0⟩) (fun k => k ≤ xs.length ∧ long16 (xs.take k) = false) (fun k => xs.length - k) 0 ⟨by omega, rfl⟩ (le_of ⟨rfl, rfl, trivial⟩ trivial rfl) ?_
  rintro k ⟨hk, hall⟩
  repeat first
    | refine Wp_seq ?_
    | refine Wp_region tm_mixed ?_
    | refine AW_move rfl rfl ?_
    | refine AW_assign rfl rfl ?_
    | refine AW_load rfl ty_num rfl rfl rfl rfl ?_
    | refine AW_store ty_num rfl rfl rfl rfl rfl rfl rfl ?_
    | refine AW_extract rfl rfl rfl ?_
    | refine AW_alloc rfl tz_num ?_
    | refine AW_box rfl rfl (row := true) rfl (fun h => by cases h) rfl ?_
    | refine AW_not rfl rfl ?_
    | refine AW_build rfl tb_num rfl ?_
    | refine AW_call rfl rfl (by first | exact k1) ?_
    | refine AW_ints rfl tu_nums ti_num ti_size ti_zero rfl rfl rfl (by first | exact .cons _ _ _ _ _ rfl (.cons _ _ _ _ _ rfl (.nil _)) | exact .cons _ _ _ _ _ rfl (.cons _ _ _ _ _ rfl (.cons _ _ _ _ _ rfl (.cons _ _ _ _ _ rfl (.nil _)))) | exact .cons _ _ _ _ _ rfl (.cons _ _ _ _ _ rfl (.cons _ _ _ _ _ rfl (.nil _))) | exact .cons _ _ _ _ _ rfl (.cons _ _ _ _ _ rfl (.cons _ _ _ _ _ rfl (.cons _ _ _ _ _ rfl (.cons _ _ _ _ _ rfl (.nil _)))))) ?_
    | refine AW_fieldAddr rfl tf_neg rfl rfl ?_ | refine AW_fieldAddr rfl tf_mag rfl rfl ?_ | refine AW_load rfl ty_bool rfl rfl rfl rfl ?_ | refine AW_load rfl ty_mag rfl rfl rfl rfl ?_ | refine AW_beq rfl Tryz.underlying4 rfl rfl ?_ | refine AW_bne rfl Tryz.underlying4 rfl rfl ?_ | refine AW_len rfl rfl Tryz.underlying22 ?_ | refine AW_ge rfl rfl rfl ?_ | refine AW_gt rfl rfl rfl ?_ | refine AW_lenPoly rfl rfl tu_nums ?_ | refine AW_lt rfl rfl rfl ?_
    | refine AW_pickT rfl rfl rfl ?_
    | refine AW_pickF rfl rfl rfl ?_
    | refine AW_skip rfl rfl rfl rfl ?_
    | refine AW_pickTg rfl rfl rfl rfl rfl rfl ?_
    | refine AW_pickFg rfl rfl rfl rfl rfl rfl ?_
    | refine AW_moveg rfl rfl rfl rfl rfl ?_
    | refine AW_notg rfl rfl rfl rfl rfl ?_
    | refine AW_eqg rfl rfl rfl rfl rfl rfl ?_
    | refine AW_eq rfl rfl rfl ?_
    | refine AW_loadg rfl rfl rfl rfl ty_num rfl rfl rfl rfl ?_
    | refine AW_callg rfl rfl rfl rfl rfl (by first | exact k1) ?_
    | refine AW_nil (fun (h : false = true) => by cases h) ?_
    | refine AW_nil (fun (_ : true = true) => by kernel_rfl) ?_
    | refine Wp_block ?_
    | refine Wp_skip ?_
    | refine Wp_exit ?_
    | refine Wp_ret ?_
  refine Wp_cond rfl (fun hc => ?_) (fun hc => ?_)
  · have hlt : k < xs.length := by simpa using hc
    obtain ⟨x, hx⟩ : ∃ x, xs[k]? = some x := ⟨_, List.getElem?_eq_getElem hlt⟩
    repeat first
      | refine Wp_seq ?_
      | refine Wp_region tm_mixed ?_
      | refine AW_move rfl rfl ?_
      | refine AW_assign rfl rfl ?_
      | refine AW_load rfl ty_num rfl rfl rfl rfl ?_
      | refine AW_store ty_num rfl rfl rfl rfl rfl rfl rfl ?_
      | refine AW_extract rfl rfl rfl ?_
      | refine AW_alloc rfl tz_num ?_
      | refine AW_box rfl rfl (row := true) rfl (fun h => by cases h) rfl ?_
      | refine AW_not rfl rfl ?_
      | refine AW_build rfl tb_num rfl ?_
      | refine AW_call rfl rfl (by first | exact k1) ?_
      | refine AW_ints rfl tu_nums ti_num ti_size ti_zero rfl rfl rfl (by first | exact .cons _ _ _ _ _ rfl (.cons _ _ _ _ _ rfl (.nil _)) | exact .cons _ _ _ _ _ rfl (.cons _ _ _ _ _ rfl (.cons _ _ _ _ _ rfl (.cons _ _ _ _ _ rfl (.nil _)))) | exact .cons _ _ _ _ _ rfl (.cons _ _ _ _ _ rfl (.cons _ _ _ _ _ rfl (.nil _))) | exact .cons _ _ _ _ _ rfl (.cons _ _ _ _ _ rfl (.cons _ _ _ _ _ rfl (.cons _ _ _ _ _ rfl (.cons _ _ _ _ _ rfl (.nil _)))))) ?_
      | refine AW_fieldAddr rfl tf_neg rfl rfl ?_ | refine AW_fieldAddr rfl tf_mag rfl rfl ?_ | refine AW_load rfl ty_bool rfl rfl rfl rfl ?_ | refine AW_load rfl ty_mag rfl rfl rfl rfl ?_ | refine AW_beq rfl Tryz.underlying4 rfl rfl ?_ | refine AW_bne rfl Tryz.underlying4 rfl rfl ?_ | refine AW_len rfl rfl Tryz.underlying22 ?_ | refine AW_ge rfl rfl rfl ?_ | refine AW_gt rfl rfl rfl ?_ | refine AW_polyAt rfl tu_nums ts_num rfl rfl hx ?_ | refine AW_recMag rfl Tryz.underlying24 rfl rfl (by kernel_rfl) rfl ?_ | refine AW_slot rfl ty_mag rfl ?_
      | refine AW_pickT rfl rfl rfl ?_
      | refine AW_pickF rfl rfl rfl ?_
      | refine AW_skip rfl rfl rfl rfl ?_
      | refine AW_pickTg rfl rfl rfl rfl rfl rfl ?_
      | refine AW_pickFg rfl rfl rfl rfl rfl rfl ?_
      | refine AW_moveg rfl rfl rfl rfl rfl ?_
      | refine AW_notg rfl rfl rfl rfl rfl ?_
      | refine AW_eqg rfl rfl rfl rfl rfl rfl ?_
      | refine AW_eq rfl rfl rfl ?_
      | refine AW_loadg rfl rfl rfl rfl ty_num rfl rfl rfl rfl ?_
      | refine AW_callg rfl rfl rfl rfl rfl (by first | exact k1) ?_
      | refine AW_nil (fun (h : false = true) => by cases h) ?_
      | refine AW_nil (fun (_ : true = true) => by kernel_rfl) ?_
      | refine Wp_block ?_
      | refine Wp_skip ?_
      | refine Wp_exit ?_
      | refine Wp_ret ?_
    refine Wp_cond rfl (fun hd => ?_) (fun hd => ?_)
    · repeat first
        | refine Wp_seq ?_
        | refine Wp_region tm_mixed ?_
        | refine AW_move rfl rfl ?_
        | refine AW_assign rfl rfl ?_
        | refine AW_load rfl ty_num rfl rfl rfl rfl ?_
        | refine AW_store ty_num rfl rfl rfl rfl rfl rfl rfl ?_
        | refine AW_extract rfl rfl rfl ?_
        | refine AW_alloc rfl tz_num ?_
        | refine AW_box rfl rfl (row := true) rfl (fun h => by cases h) rfl ?_
        | refine AW_not rfl rfl ?_
        | refine AW_build rfl tb_num rfl ?_
        | refine AW_call rfl rfl (by first | exact k1) ?_
        | refine AW_ints rfl tu_nums ti_num ti_size ti_zero rfl rfl rfl (by first | exact .cons _ _ _ _ _ rfl (.cons _ _ _ _ _ rfl (.nil _)) | exact .cons _ _ _ _ _ rfl (.cons _ _ _ _ _ rfl (.cons _ _ _ _ _ rfl (.cons _ _ _ _ _ rfl (.nil _)))) | exact .cons _ _ _ _ _ rfl (.cons _ _ _ _ _ rfl (.cons _ _ _ _ _ rfl (.nil _))) | exact .cons _ _ _ _ _ rfl (.cons _ _ _ _ _ rfl (.cons _ _ _ _ _ rfl (.cons _ _ _ _ _ rfl (.cons _ _ _ _ _ rfl (.nil _)))))) ?_
        | refine AW_fieldAddr rfl tf_neg rfl rfl ?_ | refine AW_fieldAddr rfl tf_mag rfl rfl ?_ | refine AW_load rfl ty_bool rfl rfl rfl rfl ?_ | refine AW_load rfl ty_mag rfl rfl rfl rfl ?_ | refine AW_beq rfl Tryz.underlying4 rfl rfl ?_ | refine AW_bne rfl Tryz.underlying4 rfl rfl ?_ | refine AW_len rfl rfl Tryz.underlying22 ?_ | refine AW_ge rfl rfl rfl ?_ | refine AW_gt rfl rfl rfl ?_
        | refine AW_pickT rfl rfl rfl ?_
        | refine AW_pickF rfl rfl rfl ?_
        | refine AW_skip rfl rfl rfl rfl ?_
        | refine AW_pickTg rfl rfl rfl rfl rfl rfl ?_
        | refine AW_pickFg rfl rfl rfl rfl rfl rfl ?_
        | refine AW_moveg rfl rfl rfl rfl rfl ?_
        | refine AW_notg rfl rfl rfl rfl rfl ?_
        | refine AW_eqg rfl rfl rfl rfl rfl rfl ?_
        | refine AW_eq rfl rfl rfl ?_
        | refine AW_loadg rfl rfl rfl rfl ty_num rfl rfl rfl rfl ?_
        | refine AW_callg rfl rfl rfl rfl rfl (by first | exact k1) ?_
        | refine AW_nil (fun (h : false = true) => by cases h) ?_
        | refine AW_nil (fun (_ : true = true) => by kernel_rfl) ?_
        | refine Wp_block ?_
        | refine Wp_skip ?_
        | refine Wp_exit ?_
        | refine Wp_ret ?_
      have e : long16 xs = true := by
        unfold long16
        rw [List.any_eq_true]
        exact ⟨x, List.mem_of_getElem? hx, hd⟩
      rw [e]
      exact ⟨.inr rfl, _, .tmp _ _ _ _ rfl .nil, rfl⟩
    · repeat first
        | refine Wp_seq ?_
        | refine Wp_region tm_mixed ?_
        | refine AW_move rfl rfl ?_
        | refine AW_assign rfl rfl ?_
        | refine AW_load rfl ty_num rfl rfl rfl rfl ?_
        | refine AW_store ty_num rfl rfl rfl rfl rfl rfl rfl ?_
        | refine AW_extract rfl rfl rfl ?_
        | refine AW_alloc rfl tz_num ?_
        | refine AW_box rfl rfl (row := true) rfl (fun h => by cases h) rfl ?_
        | refine AW_not rfl rfl ?_
        | refine AW_build rfl tb_num rfl ?_
        | refine AW_call rfl rfl (by first | exact k1) ?_
        | refine AW_ints rfl tu_nums ti_num ti_size ti_zero rfl rfl rfl (by first | exact .cons _ _ _ _ _ rfl (.cons _ _ _ _ _ rfl (.nil _)) | exact .cons _ _ _ _ _ rfl (.cons _ _ _ _ _ rfl (.cons _ _ _ _ _ rfl (.cons _ _ _ _ _ rfl (.nil _)))) | exact .cons _ _ _ _ _ rfl (.cons _ _ _ _ _ rfl (.cons _ _ _ _ _ rfl (.nil _))) | exact .cons _ _ _ _ _ rfl (.cons _ _ _ _ _ rfl (.cons _ _ _ _ _ rfl (.cons _ _ _ _ _ rfl (.cons _ _ _ _ _ rfl (.nil _)))))) ?_
        | refine AW_fieldAddr rfl tf_neg rfl rfl ?_ | refine AW_fieldAddr rfl tf_mag rfl rfl ?_ | refine AW_load rfl ty_bool rfl rfl rfl rfl ?_ | refine AW_load rfl ty_mag rfl rfl rfl rfl ?_ | refine AW_beq rfl Tryz.underlying4 rfl rfl ?_ | refine AW_bne rfl Tryz.underlying4 rfl rfl ?_ | refine AW_len rfl rfl Tryz.underlying22 ?_ | refine AW_ge rfl rfl rfl ?_ | refine AW_gt rfl rfl rfl ?_ | refine AW_add rfl rfl rfl ?_
        | refine AW_pickT rfl rfl rfl ?_
        | refine AW_pickF rfl rfl rfl ?_
        | refine AW_skip rfl rfl rfl rfl ?_
        | refine AW_pickTg rfl rfl rfl rfl rfl rfl ?_
        | refine AW_pickFg rfl rfl rfl rfl rfl rfl ?_
        | refine AW_moveg rfl rfl rfl rfl rfl ?_
        | refine AW_notg rfl rfl rfl rfl rfl ?_
        | refine AW_eqg rfl rfl rfl rfl rfl rfl ?_
        | refine AW_eq rfl rfl rfl ?_
        | refine AW_loadg rfl rfl rfl rfl ty_num rfl rfl rfl rfl ?_
        | refine AW_callg rfl rfl rfl rfl rfl (by first | exact k1) ?_
        | refine AW_nil (fun (h : false = true) => by cases h) ?_
        | refine AW_nil (fun (_ : true = true) => by kernel_rfl) ?_
        | refine Wp_block ?_
        | refine Wp_skip ?_
        | refine Wp_exit ?_
        | refine Wp_ret ?_
      refine ⟨k + 1, ⟨hlt, ?_⟩, le_of ⟨rfl, ?_, trivial⟩ trivial rfl, by omega⟩
      · rw [long16_take hx, hall, hd]; rfl
      · rw [← wrap_succ (by omega)]; rfl
  · have hge : k = xs.length := by have : ¬ k < xs.length := by simpa using hc
                                   omega
    repeat first
      | refine Wp_seq ?_
      | refine Wp_region tm_mixed ?_
      | refine AW_move rfl rfl ?_
      | refine AW_assign rfl rfl ?_
      | refine AW_load rfl ty_num rfl rfl rfl rfl ?_
      | refine AW_store ty_num rfl rfl rfl rfl rfl rfl rfl ?_
      | refine AW_extract rfl rfl rfl ?_
      | refine AW_alloc rfl tz_num ?_
      | refine AW_box rfl rfl (row := true) rfl (fun h => by cases h) rfl ?_
      | refine AW_not rfl rfl ?_
      | refine AW_build rfl tb_num rfl ?_
      | refine AW_call rfl rfl (by first | exact k1) ?_
      | refine AW_ints rfl tu_nums ti_num ti_size ti_zero rfl rfl rfl (by first | exact .cons _ _ _ _ _ rfl (.cons _ _ _ _ _ rfl (.nil _)) | exact .cons _ _ _ _ _ rfl (.cons _ _ _ _ _ rfl (.cons _ _ _ _ _ rfl (.cons _ _ _ _ _ rfl (.nil _)))) | exact .cons _ _ _ _ _ rfl (.cons _ _ _ _ _ rfl (.cons _ _ _ _ _ rfl (.nil _))) | exact .cons _ _ _ _ _ rfl (.cons _ _ _ _ _ rfl (.cons _ _ _ _ _ rfl (.cons _ _ _ _ _ rfl (.cons _ _ _ _ _ rfl (.nil _)))))) ?_
      | refine AW_fieldAddr rfl tf_neg rfl rfl ?_ | refine AW_fieldAddr rfl tf_mag rfl rfl ?_ | refine AW_load rfl ty_bool rfl rfl rfl rfl ?_ | refine AW_load rfl ty_mag rfl rfl rfl rfl ?_ | refine AW_beq rfl Tryz.underlying4 rfl rfl ?_ | refine AW_bne rfl Tryz.underlying4 rfl rfl ?_ | refine AW_len rfl rfl Tryz.underlying22 ?_ | refine AW_ge rfl rfl rfl ?_ | refine AW_gt rfl rfl rfl ?_
      | refine AW_pickT rfl rfl rfl ?_
      | refine AW_pickF rfl rfl rfl ?_
      | refine AW_skip rfl rfl rfl rfl ?_
      | refine AW_pickTg rfl rfl rfl rfl rfl rfl ?_
      | refine AW_pickFg rfl rfl rfl rfl rfl rfl ?_
      | refine AW_moveg rfl rfl rfl rfl rfl ?_
      | refine AW_notg rfl rfl rfl rfl rfl ?_
      | refine AW_eqg rfl rfl rfl rfl rfl rfl ?_
      | refine AW_eq rfl rfl rfl ?_
      | refine AW_loadg rfl rfl rfl rfl ty_num rfl rfl rfl rfl ?_
      | refine AW_callg rfl rfl rfl rfl rfl (by first | exact k1) ?_
      | refine AW_nil (fun (h : false = true) => by cases h) ?_
      | refine AW_nil (fun (_ : true = true) => by kernel_rfl) ?_
      | refine Wp_block ?_
      | refine Wp_skip ?_
      | refine Wp_exit ?_
      | refine Wp_ret ?_
    rw [hge, List.take_of_length_le (Nat.le_refl _)] at hall
    rw [hall]
    exact ⟨.inr rfl, _, .tmp _ _ _ _ rfl .nil, rfl⟩
theorem right_z {x : Raw} (hs : Small x.2) (h : rightInt x = true) : ∃ z : Int, x = rawOf z ∧ lc z.natAbs = x.2.length := by
  obtain ⟨z, e, l, _⟩ := right_int_of (b := x.1) (xs := x.2) hs h
  exact ⟨z, e, l⟩
set_option maxHeartbeats 1000000 in
set_option maxRecDepth 100000 in
theorem ct_law20awake : Ct Tryz.prog 25 [] (.val (aB true)) := by
  refine ct_of_wp [.tmp 0] [] 108 Tryz.func25 rfl rfl rfl rfl rfl rfl rfl rfl ?_
  intro G0 w0
  have g1 := ct_gOf 12 (-18) (lc_few (by decide)) (lc_few (by decide))
  rw [show gcdZ 12 (-18) = 6 by decide] at g1
  have b1 := ct_gBezout 12 18 (lc_few (by decide)) (lc_few (by decide))
  have eb : bzX 12 18 = 2 := by
    have h := bzX_spec (a := 12) (b := 18) (by decide)
    rw [show bM 12 18 = 3 by decide, show gcdZ 12 18 = 6 by decide] at h
    omega
  have ec : bzY 12 18 = -1 := by unfold bzY; rw [if_neg (by decide), eb, show gcdZ 12 18 = 6 by decide]; decide
  rw [show gcdZ 12 18 = 6 by decide, eb, ec] at b1
  have l1 := ct_gLcm 4 (-6) (lc_few (by decide)) (lc_few (by decide))
  rw [show lcmR 4 (-6) = rawOf 12 by unfold lcmR; rw [if_neg (by decide)]; rfl] at l1
  have j1 := ct_gJoin 2 3 3 5 (lc_few (by decide)) (lc_few (by decide)) (lc_few (by decide)) (lc_few (by decide)) (by decide) (by decide)
  have ej : joinX 2 3 3 5 = 8 := by
    have h := bzX_spec (a := 5) (b := 3) (by decide)
    rw [show bM 5 3 = 3 by decide, show gcdZ 5 3 = 1 by decide] at h
    have e : bzX 5 3 = 2 := by omega
    unfold joinX jX
    rw [if_neg (by decide), show (5 : Int).tdiv (gcdZ 3 5) = 5 by decide, show (3 : Int).tdiv (gcdZ 3 5) = 3 by decide, e, show gcdZ 3 5 = 1 by decide]
    decide
  rw [if_pos (by decide), ej, show lcmZ 3 5 = 15 by decide] at j1
  have j2 := ct_gJoin 0 4 1 6 (lc_few (by decide)) (lc_few (by decide)) (lc_few (by decide)) (lc_few (by decide)) (by decide) (by decide)
  rw [if_neg (by decide)] at j2
  have o := fun (n : Int) (h1 : -9223372036854775808 ≤ n) (h2 : n < 9223372036854775808) => ct_law20of n h1 h2
  have s := fun (z : Int) (h : z.natAbs ≤ 1000000) => ct_SameT (rawOf z) (raw_len (k := 1099511627776) (Nat.le_trans (lc_few h) (by decide)))
  repeat first
    | refine Wp_seq ?_
    | refine Wp_region tm_mixed ?_
    | refine AW_move rfl rfl ?_
    | refine AW_assign rfl rfl ?_
    | refine AW_load rfl ty_num rfl rfl rfl rfl ?_
    | refine AW_store ty_num rfl rfl rfl rfl rfl rfl rfl ?_
    | refine AW_extract rfl rfl rfl ?_
    | refine AW_alloc rfl tz_num ?_
    | refine AW_box rfl rfl (row := true) rfl (fun h => by cases h) rfl ?_
    | refine AW_not rfl rfl ?_
    | refine AW_build rfl tb_num rfl ?_
    | refine AW_call rfl rfl (by first | exact o _ (by decide) (by decide) | exact g1 | exact b1 | exact l1 | exact j1 | exact j2 | exact s _ (by decide)) ?_
    | refine AW_ints rfl tu_nums ti_num ti_size ti_zero rfl rfl rfl (by first | exact .cons _ _ _ _ _ rfl (.cons _ _ _ _ _ rfl (.nil _)) | exact .cons _ _ _ _ _ rfl (.cons _ _ _ _ _ rfl (.cons _ _ _ _ _ rfl (.cons _ _ _ _ _ rfl (.nil _)))) | exact .cons _ _ _ _ _ rfl (.cons _ _ _ _ _ rfl (.cons _ _ _ _ _ rfl (.nil _))) | exact .cons _ _ _ _ _ rfl (.cons _ _ _ _ _ rfl (.cons _ _ _ _ _ rfl (.cons _ _ _ _ _ rfl (.cons _ _ _ _ _ rfl (.nil _)))))) ?_
    | refine AW_fieldAddr rfl tf_neg rfl rfl ?_ | refine AW_fieldAddr rfl tf_mag rfl rfl ?_ | refine AW_load rfl ty_bool rfl rfl rfl rfl ?_ | refine AW_load rfl ty_mag rfl rfl rfl rfl ?_ | refine AW_beq rfl Tryz.underlying4 rfl rfl ?_ | refine AW_bne rfl Tryz.underlying4 rfl rfl ?_ | refine AW_len rfl rfl Tryz.underlying22 ?_ | refine AW_ge rfl rfl rfl ?_ | refine AW_gt rfl rfl rfl ?_
    | refine AW_pickT rfl rfl rfl ?_
    | refine AW_pickF rfl rfl rfl ?_
    | refine AW_skip rfl rfl rfl rfl ?_
    | refine AW_pickTg rfl rfl rfl rfl rfl rfl ?_
    | refine AW_pickFg rfl rfl rfl rfl rfl rfl ?_
    | refine AW_moveg rfl rfl rfl rfl rfl ?_
    | refine AW_notg rfl rfl rfl rfl rfl ?_
    | refine AW_eqg rfl rfl rfl rfl rfl rfl ?_
    | refine AW_eq rfl rfl rfl ?_
    | refine AW_loadg rfl rfl rfl rfl ty_num rfl rfl rfl rfl ?_
    | refine AW_callg rfl rfl rfl rfl rfl (by first | exact o _ (by decide) (by decide) | exact g1 | exact b1 | exact l1 | exact j1 | exact j2 | exact s _ (by decide)) ?_
    | refine AW_nil (fun (h : false = true) => by cases h) ?_
    | refine AW_nil (fun (_ : true = true) => by kernel_rfl) ?_
    | refine Wp_block ?_
    | refine Wp_skip ?_
    | refine Wp_exit ?_
    | refine Wp_ret ?_
  exact ⟨.inr rfl, _, .tmp _ _ _ _ rfl .nil, rfl⟩
end Go.Proofs.YtonbhpadoplpkaaGreat
/- The law of layer 20: zero, divides, below, differs; GcdMade. -/
namespace Go.Proofs.YtonbhpadoplpkaaGreat
open Go.RowKit Go.Deep
/-- Does g divide x? -/
def dvdB (g x : Int) : Bool := if g = 0 then decide (x = 0) else decide (x.tmod g = 0)
theorem signF {z : Int} (h : 0 ≤ z) : mkAV false [AC.b (rawOf z).1] = aB false := by show AV.one (.b (decide (z < 0))) = _; rw [decide_eq_false (by omega)]
theorem signT {z : Int} (h : z < 0) : mkAV false [AC.b (rawOf z).1] = aB true := by show AV.one (.b (decide (z < 0))) = _; rw [decide_eq_true h]
def lcmV (a b : Int) : Int := if a = 0 ∨ b = 0 then 0 else lcmZ a b
end Go.Proofs.YtonbhpadoplpkaaGreat
/- What Join tells: both rests, below the least common multiple, and it alone. -/
namespace Go.Proofs.YtonbhpadoplpkaaGreat
theorem lcmZ_eq {m n : Int} (m0 : 0 < m) (n0 : 0 < n) : lcmZ m n = m.tdiv (gcdZ m n) * n ∧ lcmZ m n = m * n.tdiv (gcdZ m n) := by
  have gp := gcdZ_pos (a := m) (b := n) (by omega)
  have h1 : m.tdiv (gcdZ m n) = ((m.natAbs / Nat.gcd m.natAbs n.natAbs : Nat) : Int) := by
    conv => lhs; rw [show m = (m.natAbs : Int) by omega]
    rfl
  have h2 : n.tdiv (gcdZ m n) = ((n.natAbs / Nat.gcd m.natAbs n.natAbs : Nat) : Int) := by
    conv => lhs; arg 1; rw [show n = (n.natAbs : Int) by omega]
    rfl
  rw [h1, h2]
  unfold lcmZ
  refine ⟨?_, by rw [show (m.natAbs : Int) = m by omega]⟩
  have e : (m.natAbs / Nat.gcd m.natAbs n.natAbs) * n.natAbs = m.natAbs * (n.natAbs / Nat.gcd m.natAbs n.natAbs) := by
    rw [Nat.div_mul_right_comm (Nat.gcd_dvd_left _ _), Nat.mul_div_assoc _ (Nat.gcd_dvd_right _ _)]
  conv => rhs; rw [show n = (n.natAbs : Int) by omega]
  rw [← Int.natCast_mul, ← Int.natCast_mul, Int.natAbs_natCast, e]
theorem jX_spec {r m s n : Int} (m0 : 0 < m) (n0 : 0 < n) (hj : joins r m s n) : 0 ≤ jX r m s n ∧ jX r m s n < lcmZ m n ∧ m ∣ jX r m s n - r ∧ n ∣ jX r m s n - s := by
  obtain ⟨g, hg⟩ : ∃ g, gcdZ m n = g := ⟨_, rfl⟩
  have gp : 0 < g := by rw [← hg]; exact gcdZ_pos (by omega)
  have gm : g ∣ m := by rw [← hg]; exact gcdZ_dvd_left _ _
  have gn : g ∣ n := by rw [← hg]; exact gcdZ_dvd_right _ _
  have hl := (lcmZ_eq m0 n0).1
  unfold joins at hj
  unfold jX
  rw [hg] at hj hl ⊢
  obtain ⟨w, hw⟩ : ∃ w, m.tdiv g = w := ⟨_, rfl⟩
  obtain ⟨v, hv⟩ : ∃ v, n.tdiv g = v := ⟨_, rfl⟩
  obtain ⟨d, hd⟩ : ∃ d, (r % m - s % n).tdiv g = d := ⟨_, rfl⟩
  have ew : w * g = m := by rw [← hw]; exact Int.tdiv_mul_cancel gm
  have ev : v * g = n := by rw [← hv]; exact Int.tdiv_mul_cancel gn
  have ed : d * g = r % m - s % n := by rw [← hd]; exact Int.tdiv_mul_cancel (Int.dvd_of_tmod_eq_zero hj)
  rw [hw, hv, hd]
  rw [hw] at hl
  have wp : 0 < w := by
    rcases Int.lt_trichotomy w 0 with h | h | h
    · have := Int.mul_neg_of_neg_of_pos h gp; omega
    · rw [h] at ew; omega
    · exact h
  have vp : 0 < v := by
    rcases Int.lt_trichotomy v 0 with h | h | h
    · have := Int.mul_neg_of_neg_of_pos h gp; omega
    · rw [h] at ev; omega
    · exact h
  -- v and w have no common divisor
  have hc : gcdZ v w = 1 := by
    have e1 : gcdZ m n = gcdZ w v * g := by
      have := gcdZ_times0 w v g
      rw [ew, ev] at this
      rw [this]
      have : 0 < gcdZ w v := gcdZ_pos (by omega)
      have := Int.mul_pos this gp
      omega
    rw [hg] at e1
    have e2 : gcdZ w v * g = 1 * g := by omega
    rw [gcdZ_comm]
    exact Int.eq_of_mul_eq_mul_right (by omega) e2
  obtain ⟨b0, b1, b2⟩ := bzX_spec (a := v) (b := w) (by omega)
  rw [hc] at b2
  obtain ⟨x, hx⟩ : ∃ x, bzX v w = x := ⟨_, rfl⟩
  rw [hx] at b2 ⊢
  obtain ⟨t, ht⟩ := b2
  obtain ⟨k, hk⟩ : ∃ k, x * (d % w) % w = k := ⟨_, rfl⟩
  have k0 : 0 ≤ k := by rw [← hk]; exact Int.emod_nonneg _ (by omega)
  have k1 : k < w := by rw [← hk]; exact Int.emod_lt_of_pos _ wp
  rw [hk]
  have s0 := Int.emod_nonneg s (show n ≠ 0 by omega)
  have s1 := Int.emod_lt_of_pos s n0
  have es : n * (s / n) + s % n = s := Int.mul_ediv_add_emod s n
  have er : m * (r / m) + r % m = r := Int.mul_ediv_add_emod r m
  refine ⟨Int.add_nonneg (Int.mul_nonneg k0 (by omega)) s0, ?_, ?_, ?_⟩
  · rw [hl]
    have h1 : k * n ≤ (w - 1) * n := Int.mul_le_mul_of_nonneg_right (by omega) (by omega)
    rw [Int.sub_mul, Int.one_mul] at h1
    omega
  · -- k is x d less a multiple of w
    have ek : w * (x * (d % w) / w) + k = x * (d % w) := by rw [← hk]; exact Int.mul_ediv_add_emod _ _
    have edm : w * (d / w) + d % w = d := Int.mul_ediv_add_emod _ _
    obtain ⟨p, hp⟩ : ∃ p, x * (d % w) / w = p := ⟨_, rfl⟩
    obtain ⟨q, hq⟩ : ∃ q, d / w = q := ⟨_, rfl⟩
    obtain ⟨dm, hdm⟩ : ∃ dm, d % w = dm := ⟨_, rfl⟩
    rw [hp, hdm] at ek
    rw [hq, hdm] at edm
    -- m divides
    refine ⟨-(p * v) - x * q * v - t * d - r / m, ?_⟩
    have e1 : k * n = (x * dm - w * p) * (v * g) := by rw [ev]; congr 1; omega
    have e2 : dm = d - w * q := by omega
    have e3 : x * v = 1 - w * t := by rw [Int.mul_comm x v]; omega
    have e4 : r = m * (r / m) + (d * g + s % n) := by omega
    have e5 : (x * dm - w * p) * (v * g) = d * g + m * (-(p * v) - x * q * v - t * d) := by
      have f1 : (x * dm - w * p) * (v * g) = (x * v) * (dm * g) - w * g * (p * v) := by
        rw [Int.sub_mul]
        congr 1
        · simp only [Int.mul_assoc, Int.mul_left_comm, Int.mul_comm]
        · simp only [Int.mul_assoc, Int.mul_left_comm, Int.mul_comm]
      rw [f1, ew]
      have f2 : dm * g = d * g - m * q := by rw [e2, Int.sub_mul, Int.mul_assoc, Int.mul_comm q g, ← Int.mul_assoc, ew]
      rw [f2, Int.mul_sub]
      have f3 : x * v * (d * g) = d * g - m * (t * d) := by
        rw [e3, Int.sub_mul, Int.one_mul]
        congr 1
        rw [← ew]
        simp only [Int.mul_assoc, Int.mul_left_comm, Int.mul_comm]
      have f4 : x * v * (m * q) = m * (x * q * v) := by simp only [Int.mul_assoc, Int.mul_left_comm, Int.mul_comm]
      rw [f3, f4, Int.mul_sub, Int.mul_sub, Int.mul_neg]
      omega
    rw [e1, e5]
    have e6 : m * (-(p * v) - x * q * v - t * d - r / m) = m * (-(p * v) - x * q * v - t * d) - m * (r / m) := Int.mul_sub _ _ _
    rw [e6]
    omega
  · exact ⟨k - s / n, by rw [Int.mul_sub, Int.mul_comm n k]; omega⟩
/-- Two numbers of both rests, below the least common multiple, are one. -/
theorem crt_unique {x y m n : Int} (_m0 : 0 < m) (_n0 : 0 < n) (x0 : 0 ≤ x) (x1 : x < lcmZ m n) (y0 : 0 ≤ y) (y1 : y < lcmZ m n) (hm : m ∣ x - y) (hn : n ∣ x - y) : x = y := by
  have hl : lcmZ m n ∣ x - y := by
    have h1 : Nat.lcm m.natAbs n.natAbs ∣ (x - y).natAbs := Nat.lcm_dvd (Int.natAbs_dvd_natAbs.2 hm) (Int.natAbs_dvd_natAbs.2 hn)
    have h2 : lcmZ m n = ((Nat.lcm m.natAbs n.natAbs : Nat) : Int) := by
      unfold lcmZ Nat.lcm
      rw [← Int.natCast_mul, Nat.mul_div_assoc _ (Nat.gcd_dvd_right _ _)]
    rw [h2]
    exact Int.ofNat_dvd_left.2 h1
  obtain ⟨k, hk⟩ := hl
  rcases Int.lt_trichotomy k 0 with h | h | h
  · have : lcmZ m n * k ≤ lcmZ m n * (-1) := Int.mul_le_mul_of_nonneg_left (by omega) (by omega)
    omega
  · subst h; omega
  · have : lcmZ m n * 1 ≤ lcmZ m n * k := Int.mul_le_mul_of_nonneg_left (by omega) (by omega)
    omega
theorem joinX_spec {r m s n : Int} (m0 : 0 < m) (n0 : 0 < n) (hj : joins r m s n) : 0 ≤ joinX r m s n ∧ joinX r m s n < lcmZ m n ∧ m ∣ joinX r m s n - r ∧ n ∣ joinX r m s n - s := by
  unfold joinX
  split
  · obtain ⟨a, b, c, d⟩ := jX_spec (r := s) (m := n) (s := r) (n := m) n0 m0 ((joins_comm r m s n).2 hj)
    rw [lcmZ_comm (by omega) (by omega)] at b
    exact ⟨a, b, d, c⟩
  · exact jX_spec m0 n0 hj
end Go.Proofs.YtonbhpadoplpkaaGreat
/- The law of layer 20: differs, GcdRests; Join of what is no modulus. -/
namespace Go.Proofs.YtonbhpadoplpkaaGreat
open Go.RowKit Go.Deep
set_option maxHeartbeats 1000000 in
set_option maxRecDepth 100000 in
theorem ct_gJoin_low (r m s n : Int) (hr : lc r.natAbs ≤ 90) (hm : lc m.natAbs ≤ 90) (hs : lc s.natAbs ≤ 90) (hn : lc n.natAbs ≤ 90) (h : m ≤ 0 ∨ n ≤ 0) :
    Ct Tryz.prog 34 [aZ r, aZ m, aZ s, aZ n] (.tup [aInt (false, []), aInt (false, []), aI 2]) := by
  have kR := ct_right [rawOf r, rawOf m, rawOf s, rawOf n] (Nat.le_of_ble_eq_true rfl)
  have e0 : [rawOf r, rawOf m, rawOf s, rawOf n].all rightInt = true := by
    simp [right_raw (Nat.le_trans hr (by decide)), right_raw (Nat.le_trans hm (by decide)), right_raw (Nat.le_trans hs (by decide)), right_raw (Nat.le_trans hn (by decide))]
  rw [e0] at kR
  refine ct_of_wp [.cell 8 24, .cell 9 24, .tmp 10] [(0, aZ r), (1, aZ m), (2, aZ s), (3, aZ n)] 168 Tryz.func34 rfl rfl rfl rfl rfl rfl rfl rfl ?_
  intro G0 w0
  by_cases m0 : m < 0
  · have hM := signT m0
    have hN := hM
    have kz1 := kR
    have kz2 := kR
    repeat first
      | refine Wp_seq ?_
      | refine Wp_region tm_mixed ?_
      | refine AW_move rfl rfl ?_
      | refine AW_assign rfl rfl ?_
      | refine AW_load rfl ty_num rfl rfl rfl rfl ?_
      | refine AW_store ty_num rfl rfl rfl rfl rfl rfl rfl ?_
      | refine AW_extract rfl rfl rfl ?_
      | refine AW_alloc rfl tz_num ?_
      | refine AW_box rfl rfl (row := true) rfl (fun h => by cases h) rfl ?_
      | refine AW_not rfl rfl ?_
      | refine AW_build rfl tb_num rfl ?_
      | refine AW_call rfl rfl (by first | exact kR | exact kz1 | exact kz2) ?_
      | refine AW_ints rfl tu_nums ti_num ti_size ti_zero rfl rfl rfl (by first | exact .cons _ _ _ _ _ rfl (.cons _ _ _ _ _ rfl (.nil _)) | exact .cons _ _ _ _ _ rfl (.cons _ _ _ _ _ rfl (.cons _ _ _ _ _ rfl (.cons _ _ _ _ _ rfl (.nil _)))) | exact .cons _ _ _ _ _ rfl (.cons _ _ _ _ _ rfl (.cons _ _ _ _ _ rfl (.nil _))) | exact .cons _ _ _ _ _ rfl (.cons _ _ _ _ _ rfl (.cons _ _ _ _ _ rfl (.cons _ _ _ _ _ rfl (.cons _ _ _ _ _ rfl (.nil _)))))) ?_
      | refine AW_loadg rfl rfl rfl rfl ty_bool rfl rfl rfl hM ?_ | refine AW_loadg rfl rfl rfl rfl ty_bool rfl rfl rfl hN ?_ | refine AW_fieldAddrg rfl rfl rfl rfl tf_neg rfl rfl ?_
      | refine AW_pickT rfl rfl rfl ?_
      | refine AW_pickF rfl rfl rfl ?_
      | refine AW_skip rfl rfl rfl rfl ?_
      | refine AW_pickTg rfl rfl rfl rfl rfl rfl ?_
      | refine AW_pickFg rfl rfl rfl rfl rfl rfl ?_
      | refine AW_moveg rfl rfl rfl rfl rfl ?_
      | refine AW_notg rfl rfl rfl rfl rfl ?_
      | refine AW_eqg rfl rfl rfl rfl rfl rfl ?_
      | refine AW_eq rfl rfl rfl ?_
      | refine AW_loadg rfl rfl rfl rfl ty_num rfl rfl rfl rfl ?_
      | refine AW_callg rfl rfl rfl rfl rfl (by first | exact kR | exact kz1 | exact kz2) ?_
      | refine AW_nil (fun (h : false = true) => by cases h) ?_
      | refine AW_nil (fun (_ : true = true) => by kernel_rfl) ?_
      | refine Wp_block ?_
      | refine Wp_skip ?_
      | refine Wp_exit ?_
      | refine Wp_ret ?_
    refine Wp_condT rfl ?_
    repeat first
      | refine Wp_seq ?_
      | refine Wp_region tm_mixed ?_
      | refine AW_move rfl rfl ?_
      | refine AW_assign rfl rfl ?_
      | refine AW_load rfl ty_num rfl rfl rfl rfl ?_
      | refine AW_store ty_num rfl rfl rfl rfl rfl rfl rfl ?_
      | refine AW_extract rfl rfl rfl ?_
      | refine AW_alloc rfl tz_num ?_
      | refine AW_box rfl rfl (row := true) rfl (fun h => by cases h) rfl ?_
      | refine AW_not rfl rfl ?_
      | refine AW_build rfl tb_num rfl ?_
      | refine AW_call rfl rfl (by first | exact kR | exact kz1 | exact kz2) ?_
      | refine AW_ints rfl tu_nums ti_num ti_size ti_zero rfl rfl rfl (by first | exact .cons _ _ _ _ _ rfl (.cons _ _ _ _ _ rfl (.nil _)) | exact .cons _ _ _ _ _ rfl (.cons _ _ _ _ _ rfl (.cons _ _ _ _ _ rfl (.cons _ _ _ _ _ rfl (.nil _)))) | exact .cons _ _ _ _ _ rfl (.cons _ _ _ _ _ rfl (.cons _ _ _ _ _ rfl (.nil _))) | exact .cons _ _ _ _ _ rfl (.cons _ _ _ _ _ rfl (.cons _ _ _ _ _ rfl (.cons _ _ _ _ _ rfl (.cons _ _ _ _ _ rfl (.nil _)))))) ?_
      | refine AW_loadg rfl rfl rfl rfl ty_bool rfl rfl rfl hM ?_ | refine AW_loadg rfl rfl rfl rfl ty_bool rfl rfl rfl hN ?_ | refine AW_fieldAddrg rfl rfl rfl rfl tf_neg rfl rfl ?_
      | refine AW_pickT rfl rfl rfl ?_
      | refine AW_pickF rfl rfl rfl ?_
      | refine AW_skip rfl rfl rfl rfl ?_
      | refine AW_pickTg rfl rfl rfl rfl rfl rfl ?_
      | refine AW_pickFg rfl rfl rfl rfl rfl rfl ?_
      | refine AW_moveg rfl rfl rfl rfl rfl ?_
      | refine AW_notg rfl rfl rfl rfl rfl ?_
      | refine AW_eqg rfl rfl rfl rfl rfl rfl ?_
      | refine AW_eq rfl rfl rfl ?_
      | refine AW_loadg rfl rfl rfl rfl ty_num rfl rfl rfl rfl ?_
      | refine AW_callg rfl rfl rfl rfl rfl (by first | exact kR | exact kz1 | exact kz2) ?_
      | refine AW_nil (fun (h : false = true) => by cases h) ?_
      | refine AW_nil (fun (_ : true = true) => by kernel_rfl) ?_
      | refine Wp_block ?_
      | refine Wp_skip ?_
      | refine Wp_exit ?_
      | refine Wp_ret ?_
    exact ⟨.inr rfl, _, .cell _ _ _ _ _ _ _ _ _ _ _ ty_num rfl rfl rfl (.cell _ _ _ _ _ _ _ _ _ _ _ ty_num rfl rfl rfl (.tmp _ _ _ _ rfl .nil)), rfl⟩
  · have hM := signF (z := m) (by omega)
    by_cases n0 : n < 0
    · have hN := signT n0
      have kz1 := kR
      have kz2 := kR
      repeat first
        | refine Wp_seq ?_
        | refine Wp_region tm_mixed ?_
        | refine AW_move rfl rfl ?_
        | refine AW_assign rfl rfl ?_
        | refine AW_load rfl ty_num rfl rfl rfl rfl ?_
        | refine AW_store ty_num rfl rfl rfl rfl rfl rfl rfl ?_
        | refine AW_extract rfl rfl rfl ?_
        | refine AW_alloc rfl tz_num ?_
        | refine AW_box rfl rfl (row := true) rfl (fun h => by cases h) rfl ?_
        | refine AW_not rfl rfl ?_
        | refine AW_build rfl tb_num rfl ?_
        | refine AW_call rfl rfl (by first | exact kR | exact kz1 | exact kz2) ?_
        | refine AW_ints rfl tu_nums ti_num ti_size ti_zero rfl rfl rfl (by first | exact .cons _ _ _ _ _ rfl (.cons _ _ _ _ _ rfl (.nil _)) | exact .cons _ _ _ _ _ rfl (.cons _ _ _ _ _ rfl (.cons _ _ _ _ _ rfl (.cons _ _ _ _ _ rfl (.nil _)))) | exact .cons _ _ _ _ _ rfl (.cons _ _ _ _ _ rfl (.cons _ _ _ _ _ rfl (.nil _))) | exact .cons _ _ _ _ _ rfl (.cons _ _ _ _ _ rfl (.cons _ _ _ _ _ rfl (.cons _ _ _ _ _ rfl (.cons _ _ _ _ _ rfl (.nil _)))))) ?_
        | refine AW_loadg rfl rfl rfl rfl ty_bool rfl rfl rfl hM ?_ | refine AW_loadg rfl rfl rfl rfl ty_bool rfl rfl rfl hN ?_ | refine AW_fieldAddrg rfl rfl rfl rfl tf_neg rfl rfl ?_
        | refine AW_pickT rfl rfl rfl ?_
        | refine AW_pickF rfl rfl rfl ?_
        | refine AW_skip rfl rfl rfl rfl ?_
        | refine AW_pickTg rfl rfl rfl rfl rfl rfl ?_
        | refine AW_pickFg rfl rfl rfl rfl rfl rfl ?_
        | refine AW_moveg rfl rfl rfl rfl rfl ?_
        | refine AW_notg rfl rfl rfl rfl rfl ?_
        | refine AW_eqg rfl rfl rfl rfl rfl rfl ?_
        | refine AW_eq rfl rfl rfl ?_
        | refine AW_loadg rfl rfl rfl rfl ty_num rfl rfl rfl rfl ?_
        | refine AW_callg rfl rfl rfl rfl rfl (by first | exact kR | exact kz1 | exact kz2) ?_
        | refine AW_nil (fun (h : false = true) => by cases h) ?_
        | refine AW_nil (fun (_ : true = true) => by kernel_rfl) ?_
        | refine Wp_block ?_
        | refine Wp_skip ?_
        | refine Wp_exit ?_
        | refine Wp_ret ?_
      refine Wp_condT rfl ?_
      repeat first
        | refine Wp_seq ?_
        | refine Wp_region tm_mixed ?_
        | refine AW_move rfl rfl ?_
        | refine AW_assign rfl rfl ?_
        | refine AW_load rfl ty_num rfl rfl rfl rfl ?_
        | refine AW_store ty_num rfl rfl rfl rfl rfl rfl rfl ?_
        | refine AW_extract rfl rfl rfl ?_
        | refine AW_alloc rfl tz_num ?_
        | refine AW_box rfl rfl (row := true) rfl (fun h => by cases h) rfl ?_
        | refine AW_not rfl rfl ?_
        | refine AW_build rfl tb_num rfl ?_
        | refine AW_call rfl rfl (by first | exact kR | exact kz1 | exact kz2) ?_
        | refine AW_ints rfl tu_nums ti_num ti_size ti_zero rfl rfl rfl (by first | exact .cons _ _ _ _ _ rfl (.cons _ _ _ _ _ rfl (.nil _)) | exact .cons _ _ _ _ _ rfl (.cons _ _ _ _ _ rfl (.cons _ _ _ _ _ rfl (.cons _ _ _ _ _ rfl (.nil _)))) | exact .cons _ _ _ _ _ rfl (.cons _ _ _ _ _ rfl (.cons _ _ _ _ _ rfl (.nil _))) | exact .cons _ _ _ _ _ rfl (.cons _ _ _ _ _ rfl (.cons _ _ _ _ _ rfl (.cons _ _ _ _ _ rfl (.cons _ _ _ _ _ rfl (.nil _)))))) ?_
        | refine AW_loadg rfl rfl rfl rfl ty_bool rfl rfl rfl hM ?_ | refine AW_loadg rfl rfl rfl rfl ty_bool rfl rfl rfl hN ?_ | refine AW_fieldAddrg rfl rfl rfl rfl tf_neg rfl rfl ?_
        | refine AW_pickT rfl rfl rfl ?_
        | refine AW_pickF rfl rfl rfl ?_
        | refine AW_skip rfl rfl rfl rfl ?_
        | refine AW_pickTg rfl rfl rfl rfl rfl rfl ?_
        | refine AW_pickFg rfl rfl rfl rfl rfl rfl ?_
        | refine AW_moveg rfl rfl rfl rfl rfl ?_
        | refine AW_notg rfl rfl rfl rfl rfl ?_
        | refine AW_eqg rfl rfl rfl rfl rfl rfl ?_
        | refine AW_eq rfl rfl rfl ?_
        | refine AW_loadg rfl rfl rfl rfl ty_num rfl rfl rfl rfl ?_
        | refine AW_callg rfl rfl rfl rfl rfl (by first | exact kR | exact kz1 | exact kz2) ?_
        | refine AW_nil (fun (h : false = true) => by cases h) ?_
        | refine AW_nil (fun (_ : true = true) => by kernel_rfl) ?_
        | refine Wp_block ?_
        | refine Wp_skip ?_
        | refine Wp_exit ?_
        | refine Wp_ret ?_
      exact ⟨.inr rfl, _, .cell _ _ _ _ _ _ _ _ _ _ _ ty_num rfl rfl rfl (.cell _ _ _ _ _ _ _ _ _ _ _ ty_num rfl rfl rfl (.tmp _ _ _ _ rfl .nil)), rfl⟩
    · have hN := signF (z := n) (by omega)
      by_cases m1 : m = 0
      · have kz1 := ct_gzeroT m m1
        have kz2 := kz1
        repeat first
          | refine Wp_seq ?_
          | refine Wp_region tm_mixed ?_
          | refine AW_move rfl rfl ?_
          | refine AW_assign rfl rfl ?_
          | refine AW_load rfl ty_num rfl rfl rfl rfl ?_
          | refine AW_store ty_num rfl rfl rfl rfl rfl rfl rfl ?_
          | refine AW_extract rfl rfl rfl ?_
          | refine AW_alloc rfl tz_num ?_
          | refine AW_box rfl rfl (row := true) rfl (fun h => by cases h) rfl ?_
          | refine AW_not rfl rfl ?_
          | refine AW_build rfl tb_num rfl ?_
          | refine AW_call rfl rfl (by first | exact kR | exact kz1 | exact kz2) ?_
          | refine AW_ints rfl tu_nums ti_num ti_size ti_zero rfl rfl rfl (by first | exact .cons _ _ _ _ _ rfl (.cons _ _ _ _ _ rfl (.nil _)) | exact .cons _ _ _ _ _ rfl (.cons _ _ _ _ _ rfl (.cons _ _ _ _ _ rfl (.cons _ _ _ _ _ rfl (.nil _)))) | exact .cons _ _ _ _ _ rfl (.cons _ _ _ _ _ rfl (.cons _ _ _ _ _ rfl (.nil _))) | exact .cons _ _ _ _ _ rfl (.cons _ _ _ _ _ rfl (.cons _ _ _ _ _ rfl (.cons _ _ _ _ _ rfl (.cons _ _ _ _ _ rfl (.nil _)))))) ?_
          | refine AW_loadg rfl rfl rfl rfl ty_bool rfl rfl rfl hM ?_ | refine AW_loadg rfl rfl rfl rfl ty_bool rfl rfl rfl hN ?_ | refine AW_fieldAddrg rfl rfl rfl rfl tf_neg rfl rfl ?_
          | refine AW_pickT rfl rfl rfl ?_
          | refine AW_pickF rfl rfl rfl ?_
          | refine AW_skip rfl rfl rfl rfl ?_
          | refine AW_pickTg rfl rfl rfl rfl rfl rfl ?_
          | refine AW_pickFg rfl rfl rfl rfl rfl rfl ?_
          | refine AW_moveg rfl rfl rfl rfl rfl ?_
          | refine AW_notg rfl rfl rfl rfl rfl ?_
          | refine AW_eqg rfl rfl rfl rfl rfl rfl ?_
          | refine AW_eq rfl rfl rfl ?_
          | refine AW_loadg rfl rfl rfl rfl ty_num rfl rfl rfl rfl ?_
          | refine AW_callg rfl rfl rfl rfl rfl (by first | exact kR | exact kz1 | exact kz2) ?_
          | refine AW_nil (fun (h : false = true) => by cases h) ?_
          | refine AW_nil (fun (_ : true = true) => by kernel_rfl) ?_
          | refine Wp_block ?_
          | refine Wp_skip ?_
          | refine Wp_exit ?_
          | refine Wp_ret ?_
        refine Wp_condT rfl ?_
        repeat first
          | refine Wp_seq ?_
          | refine Wp_region tm_mixed ?_
          | refine AW_move rfl rfl ?_
          | refine AW_assign rfl rfl ?_
          | refine AW_load rfl ty_num rfl rfl rfl rfl ?_
          | refine AW_store ty_num rfl rfl rfl rfl rfl rfl rfl ?_
          | refine AW_extract rfl rfl rfl ?_
          | refine AW_alloc rfl tz_num ?_
          | refine AW_box rfl rfl (row := true) rfl (fun h => by cases h) rfl ?_
          | refine AW_not rfl rfl ?_
          | refine AW_build rfl tb_num rfl ?_
          | refine AW_call rfl rfl (by first | exact kR | exact kz1 | exact kz2) ?_
          | refine AW_ints rfl tu_nums ti_num ti_size ti_zero rfl rfl rfl (by first | exact .cons _ _ _ _ _ rfl (.cons _ _ _ _ _ rfl (.nil _)) | exact .cons _ _ _ _ _ rfl (.cons _ _ _ _ _ rfl (.cons _ _ _ _ _ rfl (.cons _ _ _ _ _ rfl (.nil _)))) | exact .cons _ _ _ _ _ rfl (.cons _ _ _ _ _ rfl (.cons _ _ _ _ _ rfl (.nil _))) | exact .cons _ _ _ _ _ rfl (.cons _ _ _ _ _ rfl (.cons _ _ _ _ _ rfl (.cons _ _ _ _ _ rfl (.cons _ _ _ _ _ rfl (.nil _)))))) ?_
          | refine AW_loadg rfl rfl rfl rfl ty_bool rfl rfl rfl hM ?_ | refine AW_loadg rfl rfl rfl rfl ty_bool rfl rfl rfl hN ?_ | refine AW_fieldAddrg rfl rfl rfl rfl tf_neg rfl rfl ?_
          | refine AW_pickT rfl rfl rfl ?_
          | refine AW_pickF rfl rfl rfl ?_
          | refine AW_skip rfl rfl rfl rfl ?_
          | refine AW_pickTg rfl rfl rfl rfl rfl rfl ?_
          | refine AW_pickFg rfl rfl rfl rfl rfl rfl ?_
          | refine AW_moveg rfl rfl rfl rfl rfl ?_
          | refine AW_notg rfl rfl rfl rfl rfl ?_
          | refine AW_eqg rfl rfl rfl rfl rfl rfl ?_
          | refine AW_eq rfl rfl rfl ?_
          | refine AW_loadg rfl rfl rfl rfl ty_num rfl rfl rfl rfl ?_
          | refine AW_callg rfl rfl rfl rfl rfl (by first | exact kR | exact kz1 | exact kz2) ?_
          | refine AW_nil (fun (h : false = true) => by cases h) ?_
          | refine AW_nil (fun (_ : true = true) => by kernel_rfl) ?_
          | refine Wp_block ?_
          | refine Wp_skip ?_
          | refine Wp_exit ?_
          | refine Wp_ret ?_
        exact ⟨.inr rfl, _, .cell _ _ _ _ _ _ _ _ _ _ _ ty_num rfl rfl rfl (.cell _ _ _ _ _ _ _ _ _ _ _ ty_num rfl rfl rfl (.tmp _ _ _ _ rfl .nil)), rfl⟩
      · have kz1 := ct_gzeroF m m1
        have kz2 := ct_gzeroT n (by omega)
        repeat first
          | refine Wp_seq ?_
          | refine Wp_region tm_mixed ?_
          | refine AW_move rfl rfl ?_
          | refine AW_assign rfl rfl ?_
          | refine AW_load rfl ty_num rfl rfl rfl rfl ?_
          | refine AW_store ty_num rfl rfl rfl rfl rfl rfl rfl ?_
          | refine AW_extract rfl rfl rfl ?_
          | refine AW_alloc rfl tz_num ?_
          | refine AW_box rfl rfl (row := true) rfl (fun h => by cases h) rfl ?_
          | refine AW_not rfl rfl ?_
          | refine AW_build rfl tb_num rfl ?_
          | refine AW_call rfl rfl (by first | exact kR | exact kz1 | exact kz2) ?_
          | refine AW_ints rfl tu_nums ti_num ti_size ti_zero rfl rfl rfl (by first | exact .cons _ _ _ _ _ rfl (.cons _ _ _ _ _ rfl (.nil _)) | exact .cons _ _ _ _ _ rfl (.cons _ _ _ _ _ rfl (.cons _ _ _ _ _ rfl (.cons _ _ _ _ _ rfl (.nil _)))) | exact .cons _ _ _ _ _ rfl (.cons _ _ _ _ _ rfl (.cons _ _ _ _ _ rfl (.nil _))) | exact .cons _ _ _ _ _ rfl (.cons _ _ _ _ _ rfl (.cons _ _ _ _ _ rfl (.cons _ _ _ _ _ rfl (.cons _ _ _ _ _ rfl (.nil _)))))) ?_
          | refine AW_loadg rfl rfl rfl rfl ty_bool rfl rfl rfl hM ?_ | refine AW_loadg rfl rfl rfl rfl ty_bool rfl rfl rfl hN ?_ | refine AW_fieldAddrg rfl rfl rfl rfl tf_neg rfl rfl ?_
          | refine AW_pickT rfl rfl rfl ?_
          | refine AW_pickF rfl rfl rfl ?_
          | refine AW_skip rfl rfl rfl rfl ?_
          | refine AW_pickTg rfl rfl rfl rfl rfl rfl ?_
          | refine AW_pickFg rfl rfl rfl rfl rfl rfl ?_
          | refine AW_moveg rfl rfl rfl rfl rfl ?_
          | refine AW_notg rfl rfl rfl rfl rfl ?_
          | refine AW_eqg rfl rfl rfl rfl rfl rfl ?_
          | refine AW_eq rfl rfl rfl ?_
          | refine AW_loadg rfl rfl rfl rfl ty_num rfl rfl rfl rfl ?_
          | refine AW_callg rfl rfl rfl rfl rfl (by first | exact kR | exact kz1 | exact kz2) ?_
          | refine AW_nil (fun (h : false = true) => by cases h) ?_
          | refine AW_nil (fun (_ : true = true) => by kernel_rfl) ?_
          | refine Wp_block ?_
          | refine Wp_skip ?_
          | refine Wp_exit ?_
          | refine Wp_ret ?_
        refine Wp_condT rfl ?_
        repeat first
          | refine Wp_seq ?_
          | refine Wp_region tm_mixed ?_
          | refine AW_move rfl rfl ?_
          | refine AW_assign rfl rfl ?_
          | refine AW_load rfl ty_num rfl rfl rfl rfl ?_
          | refine AW_store ty_num rfl rfl rfl rfl rfl rfl rfl ?_
          | refine AW_extract rfl rfl rfl ?_
          | refine AW_alloc rfl tz_num ?_
          | refine AW_box rfl rfl (row := true) rfl (fun h => by cases h) rfl ?_
          | refine AW_not rfl rfl ?_
          | refine AW_build rfl tb_num rfl ?_
          | refine AW_call rfl rfl (by first | exact kR | exact kz1 | exact kz2) ?_
          | refine AW_ints rfl tu_nums ti_num ti_size ti_zero rfl rfl rfl (by first | exact .cons _ _ _ _ _ rfl (.cons _ _ _ _ _ rfl (.nil _)) | exact .cons _ _ _ _ _ rfl (.cons _ _ _ _ _ rfl (.cons _ _ _ _ _ rfl (.cons _ _ _ _ _ rfl (.nil _)))) | exact .cons _ _ _ _ _ rfl (.cons _ _ _ _ _ rfl (.cons _ _ _ _ _ rfl (.nil _))) | exact .cons _ _ _ _ _ rfl (.cons _ _ _ _ _ rfl (.cons _ _ _ _ _ rfl (.cons _ _ _ _ _ rfl (.cons _ _ _ _ _ rfl (.nil _)))))) ?_
          | refine AW_loadg rfl rfl rfl rfl ty_bool rfl rfl rfl hM ?_ | refine AW_loadg rfl rfl rfl rfl ty_bool rfl rfl rfl hN ?_ | refine AW_fieldAddrg rfl rfl rfl rfl tf_neg rfl rfl ?_
          | refine AW_pickT rfl rfl rfl ?_
          | refine AW_pickF rfl rfl rfl ?_
          | refine AW_skip rfl rfl rfl rfl ?_
          | refine AW_pickTg rfl rfl rfl rfl rfl rfl ?_
          | refine AW_pickFg rfl rfl rfl rfl rfl rfl ?_
          | refine AW_moveg rfl rfl rfl rfl rfl ?_
          | refine AW_notg rfl rfl rfl rfl rfl ?_
          | refine AW_eqg rfl rfl rfl rfl rfl rfl ?_
          | refine AW_eq rfl rfl rfl ?_
          | refine AW_loadg rfl rfl rfl rfl ty_num rfl rfl rfl rfl ?_
          | refine AW_callg rfl rfl rfl rfl rfl (by first | exact kR | exact kz1 | exact kz2) ?_
          | refine AW_nil (fun (h : false = true) => by cases h) ?_
          | refine AW_nil (fun (_ : true = true) => by kernel_rfl) ?_
          | refine Wp_block ?_
          | refine Wp_skip ?_
          | refine Wp_exit ?_
          | refine Wp_ret ?_
        exact ⟨.inr rfl, _, .cell _ _ _ _ _ _ _ _ _ _ _ ty_num rfl rfl rfl (.cell _ _ _ _ _ _ _ _ _ _ _ ty_num rfl rfl rfl (.tmp _ _ _ _ rfl .nil)), rfl⟩
theorem joins_iff {r m s n : Int} (_m0 : 0 < m) (_n0 : 0 < n) : joins r m s n ↔ gcdZ m n ∣ r - s := by
  have gm := gcdZ_dvd_left m n
  have gn := gcdZ_dvd_right m n
  have e1 : m * (r / m) + r % m = r := Int.mul_ediv_add_emod r m
  have e2 : n * (s / n) + s % n = s := Int.mul_ediv_add_emod s n
  have d1 : gcdZ m n ∣ m * (r / m) := Int.dvd_trans gm (Int.dvd_mul_right _ _)
  have d2 : gcdZ m n ∣ n * (s / n) := Int.dvd_trans gn (Int.dvd_mul_right _ _)
  unfold joins
  constructor
  · intro h
    have h1 := Int.dvd_of_tmod_eq_zero h
    have h2 := Int.dvd_add (Int.dvd_sub d1 d2) h1
    rwa [show m * (r / m) - n * (s / n) + (r % m - s % n) = r - s by omega] at h2
  · intro h
    refine Int.tmod_eq_zero_of_dvd ?_
    have h2 := Int.dvd_sub h (Int.dvd_sub d1 d2)
    rwa [show r - s - (m * (r / m) - n * (s / n)) = r % m - s % n by omega] at h2
end Go.Proofs.YtonbhpadoplpkaaGreat
