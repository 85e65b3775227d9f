import Derived.Test.YtjbagikfogejnaaGreatDoorPUd
import Derived.Test.YtjbagikfogejnaaGreatDoorProg
import Derived.WalkKit
import Derived.Laws.OwnMore
import Derived.Deep.Draws
import Derived.Deep.OwnRows
import Derived.Deep.LoopGhost
import Derived.Deep.QuietTactic
import Derived.BigQuiet
import Derived.Lib.Hide
import Derived.Maps.AppendAt
import Derived.Laws.Rows
import Derived.OneCell
import Derived.Shelf.Spec.BitsCarry
import Derived.Deep.DeepCutAuto
import Derived.Shelf.Small.Bits
import Derived.Shelf.Strconv.Itoa0
import Derived.Shelf.Bits.Mul64
import Derived.Lib.BitFns
import Derived.Deep.CutBlock
import Derived.BigRegion
import Derived.StillTailTactics
import Derived.Deep.AppendLies
import Derived.Orders
import Derived.Lib.SliceRun
import Derived.Deep.MidRow
import Derived.BigCall
import Derived.Laws.AppendOwn
import Derived.Great.BuildSlice
import Derived.Laws.Append
import Derived.Deep.RegionWith
import Derived.WalkMore
import Derived.Laws.EntriesVeiled
import Derived.Laws.CopyOwn
import Derived.Scope
import Derived.Test.YtjbagikfogejnaaGreatDoorRows
import Derived.ProofKit
import Derived.OpenShut
import Derived.Deep.SlicePairs
import Derived.WideKeyArgs
import Derived.Test.YtjbagikfogejnaaGreatDoorCards
import Derived.Test.YtjbagikfogejnaaGreatDoorTie
import Derived.LaidMore
import Derived.Stop.Joined
import Derived.SevenTiedAt
/- Of: Gbez, Lent, Ref8, Ref9, Ref10, Ref11, Copy, Kct, Kint, Gjoin, R20, PowP, JacP, PowQ, PowF, Pow1, Pow2, PowG, Pow3. -/
/- The package gcd, by the abstract machine: Bezout. -/
namespace Go.Proofs.YtjbagikfogejnaaGreatDoor
open Go.RowKit Go.Deep
/-- How often a stands in the divisor, ahead of the turns. -/
def eX (a b : Int) : Int := if a < 0 then -(eucR true a.natAbs b.natAbs).2.1 else (eucR true a.natAbs b.natAbs).2.1
def eY (a b : Int) : Int := if b < 0 then -(eucR true a.natAbs b.natAbs).2.2 else (eucR true a.natAbs b.natAbs).2.2
def bM (a b : Int) : Int := ((b.natAbs / Nat.gcd a.natAbs b.natAbs : Nat) : Int)
def bT (a b : Int) : Int := if b < 0 then -(a.tdiv (gcdZ a b)) else a.tdiv (gcdZ a b)
def bzX (a b : Int) : Int := if b = 0 then Int.sign a else eX a b % bM a b
def bzY (a b : Int) : Int := if b = 0 then 0 else (gcdZ a b - a * bzX a b).tdiv b
theorem gcdZ_pos {a b : Int} (h : b ≠ 0) : 0 < gcdZ a b := by
  have := Nat.gcd_pos_of_pos_right a.natAbs (show 0 < b.natAbs by omega)
  show 0 < ((Nat.gcd a.natAbs b.natAbs : Nat) : Int)
  omega
theorem gcdZ_dvd_left (a b : Int) : gcdZ a b ∣ a := by
  show ((Nat.gcd a.natAbs b.natAbs : Nat) : Int) ∣ a
  rw [Int.ofNat_dvd_left]
  exact Nat.gcd_dvd_left _ _
theorem bM_mul (a b : Int) : bM a b * gcdZ a b = (b.natAbs : Int) := by
  unfold bM gcdZ
  rw [← Int.natCast_mul, Nat.div_mul_cancel (Nat.gcd_dvd_right _ _)]
theorem bM_pos {a b : Int} (h : b ≠ 0) : 0 < bM a b := by
  have h1 := bM_mul a b
  have h2 := gcdZ_pos (a := a) h
  rcases Int.lt_trichotomy (bM a b) 0 with h3 | h3 | h3
  · have := Int.mul_neg_of_neg_of_pos h3 h2; omega
  · rw [h3] at h1; simp at h1; omega
  · exact h3
theorem bT_mul {a b : Int} (h : b ≠ 0) : b * bT a b = a * bM a b := by
  have hg : gcdZ a b ≠ 0 := by have := gcdZ_pos (a := a) h; omega
  have ha : a.tdiv (gcdZ a b) * gcdZ a b = a := Int.tdiv_mul_cancel (gcdZ_dvd_left a b)
  have hm := bM_mul a b
  refine Int.eq_of_mul_eq_mul_right hg ?_
  unfold bT
  by_cases hb : b < 0
  · rw [if_pos hb, Int.mul_assoc, Int.neg_mul, ha, Int.mul_assoc, hm, Int.mul_comm a]
    rw [show (b.natAbs : Int) = -b by omega, Int.mul_neg, Int.neg_mul]
  · rw [if_neg hb, Int.mul_assoc, ha, Int.mul_assoc, hm, Int.mul_comm a]
    rw [show (b.natAbs : Int) = b by omega]
theorem signs_mul {a x : Int} : (if a < 0 then -x else x) * a = (a.natAbs : Int) * x := by
  by_cases h : a < 0
  · rw [if_pos h, show (a.natAbs : Int) = -a by omega, Int.neg_mul, Int.neg_mul, Int.mul_comm]
  · rw [if_neg h, show (a.natAbs : Int) = a by omega, Int.mul_comm]
theorem e_made (a b : Int) : a * eX a b + b * eY a b = gcdZ a b := by
  obtain ⟨x2, y2, h⟩ := eucR_row true a.natAbs b.natAbs
  have h1 := h.made0 rfl
  rw [eucR_gcd] at h1
  rw [Int.mul_comm a, Int.mul_comm b]
  unfold eX eY
  rw [signs_mul, signs_mul]
  exact h1
theorem eX_size (a b : Int) : (eX a b).natAbs ≤ max b.natAbs 1 := by
  obtain ⟨x2, y2, h⟩ := eucR_row true a.natAbs b.natAbs
  have := h.bx0
  unfold eX
  split
  · rw [Int.natAbs_neg]; exact this
  · exact this
theorem zZ_zero : zZ 0 = aInt (false, []) := by show aInt (rawOf 0) = _; rw [rawOf_zero]
theorem cmpZ_low {x y : Int} : cmpZ x y < 0 ↔ x < y := by
  rcases Int.lt_trichotomy x y with h | h | h
  · rw [cmpZ_lt h]; omega
  · subst h; rw [cmpZ_eq]; omega
  · rw [cmpZ_gt h]; omega
/-- What the turns keep. -/
structure Turn (a b x y : Int) : Prop where
  made : a * x + b * y = gcdZ a b
  rest : x % bM a b = eX a b % bM a b
  size : x.natAbs ≤ max b.natAbs 1
theorem Turn.start (a b : Int) : Turn a b (eX a b) (eY a b) := ⟨e_made a b, rfl, eX_size a b⟩
theorem bM_le (a b : Int) : (bM a b).natAbs ≤ b.natAbs := by unfold bM; rw [Int.natAbs_natCast]; exact Nat.div_le_self _ _
theorem Turn.up {a b x y : Int} (h : Turn a b x y) (hb : b ≠ 0) (hx : x < 0) : Turn a b (x + bM a b) (y - bT a b) := by
  refine ⟨?_, ?_, ?_⟩
  · rw [Int.mul_add, Int.mul_sub, bT_mul hb, ← h.made]; omega
  · rw [Int.add_emod_right]; exact h.rest
  · have := h.size; have := bM_pos (a := a) hb; have := bM_le a b; omega
theorem Turn.down {a b x y : Int} (h : Turn a b x y) (hb : b ≠ 0) (hx : bM a b ≤ x) : Turn a b (x - bM a b) (y + bT a b) := by
  refine ⟨?_, ?_, ?_⟩
  · rw [Int.mul_sub, Int.mul_add, bT_mul hb, ← h.made]; omega
  · rw [Int.sub_emod_right]; exact h.rest
  · have := h.size; have := bM_pos (a := a) hb; omega
theorem Turn.last {a b x y : Int} (h : Turn a b x y) (hb : b ≠ 0) (h0 : 0 ≤ x) (h1 : x < bM a b) : x = bzX a b ∧ y = bzY a b := by
  have e : x = bzX a b := by
    unfold bzX
    rw [if_neg hb, ← h.rest, Int.emod_eq_of_lt h0 h1]
  refine ⟨e, ?_⟩
  unfold bzY
  rw [if_neg hb, ← e]
  have h2 : gcdZ a b - a * x = y * b := by rw [← h.made, Int.mul_comm y]; omega
  rw [h2, Int.mul_tdiv_cancel _ hb]
theorem Turn.sizes {a b x y : Int} (h : Turn a b x y) (hb : b ≠ 0) (ha : lc a.natAbs ≤ 90) (hb' : lc b.natAbs ≤ 90) : lc x.natAbs ≤ 90 ∧ lc y.natAbs ≤ 1000 := by
  have hbn : 1 ≤ b.natAbs := by omega
  have hx : x.natAbs ≤ b.natAbs := by have := h.size; omega
  refine ⟨Nat.le_trans (lc_mono hx) hb', ?_⟩
  have h1 : b * y = gcdZ a b - a * x := by have := h.made; omega
  have h2 : b.natAbs * y.natAbs = (gcdZ a b - a * x).natAbs := by rw [← Int.natAbs_mul, h1]
  have h3 : (gcdZ a b - a * x).natAbs ≤ (gcdZ a b).natAbs + (a * x).natAbs := by omega
  have h4 : y.natAbs ≤ b.natAbs * y.natAbs := Nat.le_mul_of_pos_left _ hbn
  have h5 : y.natAbs ≤ (gcdZ a b).natAbs + (a * x).natAbs := by omega
  have h6 : lc (gcdZ a b).natAbs ≤ 90 := by unfold gcdZ; rw [Int.natAbs_natCast]; exact gcd_small ha hb'
  have h7 : lc (a * x).natAbs ≤ 180 := by rw [Int.natAbs_mul]; have := lc_mul a.natAbs x.natAbs; have := lc_mono hx; omega
  have h8 := lc_add (gcdZ a b).natAbs (a * x).natAbs
  have h9 := lc_mono h5
  omega
theorem bT_lc {a b : Int} (ha : lc a.natAbs ≤ 90) : lc (bT a b).natAbs ≤ 90 := by
  have : (bT a b).natAbs ≤ a.natAbs := by
    unfold bT
    split
    · rw [Int.natAbs_neg, Int.natAbs_tdiv]; exact Nat.div_le_self _ _
    · rw [Int.natAbs_tdiv]; exact Nat.div_le_self _ _
  exact Nat.le_trans (lc_mono this) ha
set_option maxHeartbeats 1000000 in
set_option maxRecDepth 100000 in
theorem ct_gBezout (a b : Int) (ha : lc a.natAbs ≤ 90) (hb : lc b.natAbs ≤ 90) : Ct Tryz.prog 60 [aZ a, aZ b] (.tup [zZ (gcdZ a b), zZ (bzX a b), zZ (bzY a b), aI 0]) := by
  have hla : lc a.natAbs ≤ 1099511627776 := by omega
  have hlb : lc b.natAbs ≤ 1099511627776 := by omega
  have hgz : ((eucR true a.natAbs b.natAbs).1 : Int) = gcdZ a b := by rw [eucR_gcd]
  have hx0 : lc (eucR true a.natAbs b.natAbs).2.1.natAbs ≤ 4096 := by obtain ⟨_, _, h⟩ := eucR_row true a.natAbs b.natAbs; exact Nat.le_trans (h.small ha hb).2.2.1 (by decide)
  have hy0 : lc (eucR true a.natAbs b.natAbs).2.2.natAbs ≤ 4096 := by obtain ⟨_, _, h⟩ := eucR_row true a.natAbs b.natAbs; exact Nat.le_trans (h.small ha hb).2.2.2.1 (by decide)
  refine ct_of_wp [.cell 4 24, .cell 5 24, .cell 6 24, .tmp 7] [(0, aZ a), (1, aZ b)] 124 Tryz.func60 rfl rfl rfl rfl rfl rfl rfl rfl ?_
  intro G0 w0
  repeat first | refine Wp_seq ?_ | refine Wp_region tm_mixed ?_ | refine AW_assign rfl rfl ?_ | refine AW_load rfl ty_num rfl rfl rfl rfl ?_ | refine AW_alloc rfl tz_num ?_ | refine AW_box rfl rfl (row := true) rfl (fun h => by cases h) rfl ?_ | refine AW_not rfl rfl ?_ | refine AW_call rfl rfl (by first | exact ct_right _ (Nat.le_of_ble_eq_true rfl) | exact ct_gzeroT _ (by assumption) | exact ct_gzeroF _ (by assumption) | exact ct_gsize _ (by assumption) | exact ct_run _ _ _ ha hb) ?_ | refine AW_ints rfl tu_nums ti_num ti_size ti_zero rfl rfl rfl (by first | exact .cons _ _ _ _ _ rfl (.cons _ _ _ _ _ rfl (.nil _)) | exact .cons _ _ _ _ _ rfl (.cons _ _ _ _ _ rfl (.cons _ _ _ _ _ rfl (.cons _ _ _ _ _ rfl (.nil _)))) | exact .cons _ _ _ _ _ rfl (.cons _ _ _ _ _ rfl (.cons _ _ _ _ _ rfl (.nil _))) | exact .cons _ _ _ _ _ rfl (.cons _ _ _ _ _ rfl (.cons _ _ _ _ _ rfl (.cons _ _ _ _ _ rfl (.cons _ _ _ _ _ rfl (.nil _)))))) ?_ | refine AW_nil (fun (h : false = true) => by cases h) ?_
  refine Wp_cond rfl (fun hc => ?_) (fun hc => ?_)
  · simp [right_raw (Nat.le_trans ha (by decide)), right_raw (Nat.le_trans hb (by decide))] at hc
  · repeat first | refine Wp_seq ?_ | refine Wp_region tm_mixed ?_ | refine AW_load rfl ty_num rfl rfl rfl rfl ?_ | refine AW_store ty_num rfl rfl rfl rfl rfl rfl rfl ?_ | refine AW_store ty_row rfl rfl rfl rfl rfl rfl rfl ?_ | refine AW_alloc rfl tz_num ?_ | refine AW_alloc rfl tz_row ?_ | refine AW_call rfl rfl (by first | exact ct_right _ (Nat.le_of_ble_eq_true rfl) | exact ct_gzeroT _ (by assumption) | exact ct_gzeroF _ (by assumption) | exact ct_gsize _ (by assumption) | exact ct_run _ _ _ ha hb) ?_ | refine AW_load rfl ty_bool rfl rfl rfl rfl ?_ | refine AW_fieldAddr rfl tf_neg rfl rfl ?_ | refine AW_fieldAddr rfl tf_row0 rfl rfl ?_ | refine AW_fieldAddr rfl tf_row1 rfl rfl ?_ | refine AW_arrayAt rfl Tryz.underlying106 ts_num rfl rfl rfl rfl ?_ | refine AW_nil (fun (h : false = true) => by cases h) ?_ | refine AW_nil (fun (_ : true = true) => by kernel_rfl) ?_ | refine Wp_skip ?_
    refine Wp_to (fun s' => Le s' ⟨[(2, .val (.one (.ptr 0 0))), (3, .val (.one (.ptr 1 0))), (4, .val (.one (.ptr 2 0))), (5, .val (.one (.ptr 3 0))), (6, .val (.one (.ptr 4 0))), (9, .val (.one (.ptr 6 0))), (10, .val (.one (.ptr 7 0))), (11, .val (.one (.ptr 8 0)))],
      [(0, 24, [.b (rawOf a).1, .st (magP (rawOf a).2)]), (1, 24, [.b (rawOf b).1, .st (magP (rawOf b).2)]), (2, 24, [.b false, .st (magP [])]), (3, 24, [.b false, .st (magP [])]), (4, 24, [.b false, .st (magP [])]),
       (6, 24, [.b (rawOf (gcdZ a b)).1, .st (magP (rawOf (gcdZ a b)).2)]), (7, 24, [.b (rawOf (eX a b)).1, .st (magP (rawOf (eX a b)).2)]), (8, 24, [.b (rawOf (eucR true a.natAbs b.natAbs).2.2).1, .st (magP (rawOf (eucR true a.natAbs b.natAbs).2.2).2)])], 9⟩) ?_ ?_
    · refine Wp_cond rfl (fun hc => ?_) (fun hc => ?_)
      · have hX : eX a b = -(eucR true a.natAbs b.natAbs).2.1 := by unfold eX; rw [if_pos (of_decide_eq_true hc)]
        rw [← hgz, hX]
        repeat first | refine Wp_region tm_mixed ?_ | refine AW_move rfl rfl ?_ | refine AW_load rfl ty_num rfl rfl rfl rfl ?_ | refine AW_store ty_num rfl rfl rfl rfl rfl rfl rfl ?_ | refine AW_extract rfl rfl rfl ?_ | refine AW_call rfl rfl (by first | exact ct_right _ (Nat.le_of_ble_eq_true rfl) | exact ct_gzeroT _ (by assumption) | exact ct_gzeroF _ (by assumption) | exact ct_gsize _ (by assumption) | exact ct_run _ _ _ ha hb | exact ct_Neg _ hx0) ?_ | refine AW_nil (fun (h : false = true) => by cases h) ?_
        exact le_of ⟨rfl, rfl, rfl, rfl, rfl, rfl, rfl, rfl, trivial⟩ ⟨rfl, rfl, rfl, rfl, rfl, rfl, rfl, rfl, trivial⟩ rfl
      · have hX : eX a b = (eucR true a.natAbs b.natAbs).2.1 := by unfold eX; rw [if_neg (of_decide_eq_false hc)]
        rw [← hgz, hX]
        repeat first | refine Wp_skip ?_
        exact le_of ⟨rfl, rfl, rfl, rfl, rfl, rfl, rfl, rfl, trivial⟩ ⟨rfl, rfl, rfl, rfl, rfl, rfl, rfl, rfl, trivial⟩ rfl
    · intro s' hs'
      refine Wp_le hs' ?_
      repeat first | refine Wp_seq ?_ | refine Wp_region tm_mixed ?_ | refine AW_load rfl ty_bool rfl rfl rfl rfl ?_ | refine AW_fieldAddr rfl tf_neg rfl rfl ?_ | refine AW_nil (fun (h : false = true) => by cases h) ?_
      refine Wp_to (fun s' => Le s' ⟨[(2, .val (.one (.ptr 0 0))), (3, .val (.one (.ptr 1 0))), (4, .val (.one (.ptr 2 0))), (5, .val (.one (.ptr 3 0))), (6, .val (.one (.ptr 4 0))), (9, .val (.one (.ptr 6 0))), (10, .val (.one (.ptr 7 0))), (11, .val (.one (.ptr 8 0)))],
      [(0, 24, [.b (rawOf a).1, .st (magP (rawOf a).2)]), (1, 24, [.b (rawOf b).1, .st (magP (rawOf b).2)]), (2, 24, [.b false, .st (magP [])]), (3, 24, [.b false, .st (magP [])]), (4, 24, [.b false, .st (magP [])]),
       (6, 24, [.b (rawOf (gcdZ a b)).1, .st (magP (rawOf (gcdZ a b)).2)]), (7, 24, [.b (rawOf (eX a b)).1, .st (magP (rawOf (eX a b)).2)]), (8, 24, [.b (rawOf (eY a b)).1, .st (magP (rawOf (eY a b)).2)])], 9⟩) ?_ ?_
      · refine Wp_cond rfl (fun hc => ?_) (fun hc => ?_)
        · have hY : eY a b = -(eucR true a.natAbs b.natAbs).2.2 := by unfold eY; rw [if_pos (of_decide_eq_true hc)]
          rw [hY]
          repeat first | refine Wp_region tm_mixed ?_ | refine AW_move rfl rfl ?_ | refine AW_load rfl ty_num rfl rfl rfl rfl ?_ | refine AW_store ty_num rfl rfl rfl rfl rfl rfl rfl ?_ | refine AW_extract rfl rfl rfl ?_ | refine AW_call rfl rfl (by first | exact ct_right _ (Nat.le_of_ble_eq_true rfl) | exact ct_gzeroT _ (by assumption) | exact ct_gzeroF _ (by assumption) | exact ct_gsize _ (by assumption) | exact ct_run _ _ _ ha hb | exact ct_Neg _ hy0) ?_ | refine AW_nil (fun (h : false = true) => by cases h) ?_
          exact le_of ⟨rfl, rfl, rfl, rfl, rfl, rfl, rfl, rfl, trivial⟩ ⟨rfl, rfl, rfl, rfl, rfl, rfl, rfl, rfl, trivial⟩ rfl
        · have hY : eY a b = (eucR true a.natAbs b.natAbs).2.2 := by unfold eY; rw [if_neg (of_decide_eq_false hc)]
          rw [hY]
          repeat first | refine Wp_skip ?_
          exact le_of ⟨rfl, rfl, rfl, rfl, rfl, rfl, rfl, rfl, trivial⟩ ⟨rfl, rfl, rfl, rfl, rfl, rfl, rfl, rfl, trivial⟩ rfl
      · intro s'' hs''
        refine Wp_le hs'' ?_
        by_cases hg0 : gcdZ a b = 0
        · have h0 : a = 0 ∧ b = 0 := by
            have h1 : Nat.gcd a.natAbs b.natAbs = 0 := by have : ((Nat.gcd a.natAbs b.natAbs : Nat) : Int) = 0 := hg0; omega
            rw [Nat.gcd_eq_zero_iff] at h1
            omega
          obtain ⟨rfl, rfl⟩ := h0
          repeat first | refine Wp_seq ?_ | refine Wp_region tm_mixed ?_ | refine AW_assign rfl rfl ?_ | refine AW_load rfl ty_num rfl rfl rfl rfl ?_ | refine AW_call rfl rfl (by first | exact ct_right _ (Nat.le_of_ble_eq_true rfl) | exact ct_gzeroT _ (by assumption) | exact ct_gzeroF _ (by assumption) | exact ct_gsize _ (by assumption) | exact ct_run _ _ _ ha hb) ?_ | refine AW_nil (fun (h : false = true) => by cases h) ?_ | refine Wp_block ?_
          refine Wp_condT rfl ?_
          repeat first | refine Wp_seq ?_ | refine Wp_region tm_mixed ?_ | refine AW_assign rfl rfl ?_ | refine AW_store ty_num rfl rfl rfl rfl rfl rfl rfl ?_ | refine AW_build rfl tb_num rfl ?_ | refine AW_nil (fun (h : false = true) => by cases h) ?_ | refine Wp_ret ?_
          exact ⟨.inr rfl, _, .cell _ _ _ _ _ _ _ _ _ _ _ ty_num rfl rfl rfl (.cell _ _ _ _ _ _ _ _ _ _ _ ty_num rfl rfl rfl (.cell _ _ _ _ _ _ _ _ _ _ _ ty_num rfl rfl rfl (.tmp _ _ _ _ rfl .nil))), by
            rw [hg0, show bzX 0 0 = 0 from rfl, show bzY 0 0 = 0 from rfl, zZ_zero]; rfl⟩
        · by_cases hb0 : b = 0
          · subst hb0
            have hX : eX a 0 = bzX a 0 := by
              unfold eX bzX eucR
              rw [if_pos rfl, show (0 : Int).natAbs = 0 from rfl, euc_zero]
              have : a ≠ 0 := fun e => hg0 (by subst e; rfl)
              by_cases h : a < 0
              · rw [if_pos h, Int.sign_eq_neg_one_of_neg h]
              · rw [if_neg h, Int.sign_eq_one_of_pos (by omega)]
            rw [← hX]
            have hz0 : (0 : Int) = 0 := rfl
            repeat first | refine Wp_seq ?_ | refine Wp_region tm_mixed ?_ | refine AW_assign rfl rfl ?_ | refine AW_load rfl ty_num rfl rfl rfl rfl ?_ | refine AW_call rfl rfl (by first | exact ct_right _ (Nat.le_of_ble_eq_true rfl) | exact ct_gzeroT _ (by assumption) | exact ct_gzeroF _ (by assumption) | exact ct_gsize _ (by assumption) | exact ct_run _ _ _ ha hb) ?_ | refine AW_nil (fun (h : false = true) => by cases h) ?_ | refine Wp_block ?_
            refine Wp_condF rfl ?_
            repeat first | refine Wp_seq ?_ | refine Wp_region tm_mixed ?_ | refine AW_assign rfl rfl ?_ | refine AW_load rfl ty_num rfl rfl rfl rfl ?_ | refine AW_call rfl rfl (by first | exact ct_right _ (Nat.le_of_ble_eq_true rfl) | exact ct_gzeroT _ (by assumption) | exact ct_gzeroF _ (by assumption) | exact ct_gsize _ (by assumption) | exact ct_run _ _ _ ha hb) ?_ | refine AW_nil (fun (h : false = true) => by cases h) ?_
            refine Wp_condT rfl ?_
            repeat first | refine Wp_seq ?_ | refine Wp_region tm_mixed ?_ | refine AW_assign rfl rfl ?_ | refine AW_load rfl ty_num rfl rfl rfl rfl ?_ | refine AW_store ty_num rfl rfl rfl rfl rfl rfl rfl ?_ | refine AW_build rfl tb_num rfl ?_ | refine AW_nil (fun (_ : true = true) => by kernel_rfl) ?_ | refine Wp_ret ?_
            exact ⟨.inr rfl, _, .cell _ _ _ _ _ _ _ _ _ _ _ ty_num rfl rfl rfl (.cell _ _ _ _ _ _ _ _ _ _ _ ty_num rfl rfl rfl (.cell _ _ _ _ _ _ _ _ _ _ _ ty_num rfl rfl rfl (.tmp _ _ _ _ rfl .nil))), by
              rw [show bzY a 0 = 0 from rfl, zZ_zero]; rfl⟩
          · have hgn : lc (gcdZ a b).natAbs ≤ 1200 := by unfold gcdZ; rw [Int.natAbs_natCast]; exact Nat.le_trans (gcd_small ha hb) (by decide)
            have kE := ct_Exact0 (b.natAbs : Int) (gcdZ a b) (by rw [Int.natAbs_natCast]; omega) hgn hg0 (by
              show ((b.natAbs % Nat.gcd a.natAbs b.natAbs : Nat) : Int) = 0
              rw [Nat.mod_eq_zero_of_dvd (Nat.gcd_dvd_right _ _)]; rfl)
            rw [show (b.natAbs : Int).tdiv (gcdZ a b) = bM a b from rfl] at kE
            have kF := ct_Exact0 a (gcdZ a b) (by omega) hgn hg0 (Int.tmod_eq_zero_of_dvd (gcdZ_dvd_left a b))
            have hT1 : lc (a.tdiv (gcdZ a b)).natAbs ≤ 4096 := by rw [Int.natAbs_tdiv]; exact Nat.le_trans (lc_mono (Nat.div_le_self _ _)) (by omega)
            have hM1 : lc (bM a b).natAbs ≤ 4096 := Nat.le_trans (lc_mono (bM_le a b)) (by omega)
            have hT2 : lc (bT a b).natAbs ≤ 4096 := Nat.le_trans (bT_lc ha) (by decide)
            repeat first | refine Wp_seq ?_ | refine Wp_region tm_mixed ?_ | refine AW_assign rfl rfl ?_ | refine AW_load rfl ty_num rfl rfl rfl rfl ?_ | refine AW_call rfl rfl (by first | exact ct_right _ (Nat.le_of_ble_eq_true rfl) | exact ct_gzeroT _ (by assumption) | exact ct_gzeroF _ (by assumption) | exact ct_gsize _ (by assumption) | exact ct_run _ _ _ ha hb | exact kE | exact kF) ?_ | refine AW_nil (fun (h : false = true) => by cases h) ?_ | refine Wp_block ?_
            refine Wp_condF rfl ?_
            repeat first | refine Wp_seq ?_ | refine Wp_region tm_mixed ?_ | refine AW_assign rfl rfl ?_ | refine AW_load rfl ty_num rfl rfl rfl rfl ?_ | refine AW_call rfl rfl (by first | exact ct_right _ (Nat.le_of_ble_eq_true rfl) | exact ct_gzeroT _ (by assumption) | exact ct_gzeroF _ (by assumption) | exact ct_gsize _ (by assumption) | exact ct_run _ _ _ ha hb | exact kE | exact kF) ?_ | refine AW_nil (fun (h : false = true) => by cases h) ?_
            refine Wp_condF rfl ?_
            repeat first | refine Wp_seq ?_ | refine Wp_region tm_mixed ?_ | refine AW_move rfl rfl ?_ | refine AW_assign rfl rfl ?_ | refine AW_load rfl ty_num rfl rfl rfl rfl ?_ | refine AW_store ty_num rfl rfl rfl rfl rfl rfl rfl ?_ | refine AW_extract rfl rfl rfl ?_ | refine AW_alloc rfl tz_num ?_ | refine AW_call rfl rfl (by first | exact ct_right _ (Nat.le_of_ble_eq_true rfl) | exact ct_gzeroT _ (by assumption) | exact ct_gzeroF _ (by assumption) | exact ct_gsize _ (by assumption) | exact ct_run _ _ _ ha hb | exact kE | exact kF) ?_ | refine AW_load rfl ty_bool rfl rfl rfl rfl ?_ | refine AW_fieldAddr rfl tf_neg rfl rfl ?_ | refine AW_nil (fun (h : false = true) => by cases h) ?_ | refine AW_nil (fun (_ : true = true) => by kernel_rfl) ?_ | refine Wp_skip ?_
            refine Wp_to (fun s' => Le s' ⟨[(2, .val (.one (.ptr 0 0))), (3, .val (.one (.ptr 1 0))), (4, .val (.one (.ptr 2 0))), (5, .val (.one (.ptr 3 0))), (6, .val (.one (.ptr 4 0))), (9, .val (.one (.ptr 6 0))), (10, .val (.one (.ptr 7 0))), (11, .val (.one (.ptr 8 0))), (12, .val (.one (.ptr 9 0))), (15, .val (.one (.ptr 10 0)))],
      [(0, 24, [.b (rawOf a).1, .st (magP (rawOf a).2)]), (1, 24, [.b (rawOf b).1, .st (magP (rawOf b).2)]), (2, 24, [.b false, .st (magP [])]), (3, 24, [.b false, .st (magP [])]), (4, 24, [.b false, .st (magP [])]),
       (6, 24, [.b (rawOf (gcdZ a b)).1, .st (magP (rawOf (gcdZ a b)).2)]), (7, 24, [.b (rawOf (eX a b)).1, .st (magP (rawOf (eX a b)).2)]), (8, 24, [.b (rawOf (eY a b)).1, .st (magP (rawOf (eY a b)).2)]), (9, 24, [.b (rawOf (bM a b)).1, .st (magP (rawOf (bM a b)).2)]), (10, 24, [.b (rawOf (bT a b)).1, .st (magP (rawOf (bT a b)).2)])], 11⟩) ?_ ?_
            · refine Wp_cond rfl (fun hc => ?_) (fun hc => ?_)
              · have hT : bT a b = -(a.tdiv (gcdZ a b)) := by unfold bT; rw [if_pos (of_decide_eq_true hc)]
                rw [hT]
                repeat first | refine Wp_region tm_mixed ?_ | refine AW_move rfl rfl ?_ | refine AW_load rfl ty_num rfl rfl rfl rfl ?_ | refine AW_store ty_num rfl rfl rfl rfl rfl rfl rfl ?_ | refine AW_extract rfl rfl rfl ?_ | refine AW_call rfl rfl (by first | exact ct_right _ (Nat.le_of_ble_eq_true rfl) | exact ct_gzeroT _ (by assumption) | exact ct_gzeroF _ (by assumption) | exact ct_gsize _ (by assumption) | exact ct_run _ _ _ ha hb | exact ct_Neg _ hT1) ?_ | refine AW_nil (fun (h : false = true) => by cases h) ?_
                exact le_of ⟨rfl, rfl, rfl, rfl, rfl, rfl, rfl, rfl, rfl, rfl, trivial⟩ ⟨rfl, rfl, rfl, rfl, rfl, rfl, rfl, rfl, rfl, rfl, trivial⟩ rfl
              · have hT : bT a b = a.tdiv (gcdZ a b) := by unfold bT; rw [if_neg (of_decide_eq_false hc)]
                rw [hT]
                repeat first | refine Wp_skip ?_
                exact le_of ⟨rfl, rfl, rfl, rfl, rfl, rfl, rfl, rfl, rfl, rfl, trivial⟩ ⟨rfl, rfl, rfl, rfl, rfl, rfl, rfl, rfl, rfl, rfl, trivial⟩ rfl
            · intro s3 hs3
              refine Wp_le hs3 ?_
              repeat first | refine Wp_seq ?_ | refine Wp_block ?_
              refine Wp_loop (fun p : Int × Int => ⟨[(2, .val (.one (.ptr 0 0))), (3, .val (.one (.ptr 1 0))), (4, .val (.one (.ptr 2 0))), (5, .val (.one (.ptr 3 0))), (6, .val (.one (.ptr 4 0))), (9, .val (.one (.ptr 6 0))), (10, .val (.one (.ptr 7 0))), (11, .val (.one (.ptr 8 0))), (12, .val (.one (.ptr 9 0))), (15, .val (.one (.ptr 10 0)))],
      [(0, 24, [.b (rawOf a).1, .st (magP (rawOf a).2)]), (1, 24, [.b (rawOf b).1, .st (magP (rawOf b).2)]), (2, 24, [.b false, .st (magP [])]), (3, 24, [.b false, .st (magP [])]), (4, 24, [.b false, .st (magP [])]),
       (6, 24, [.b (rawOf (gcdZ a b)).1, .st (magP (rawOf (gcdZ a b)).2)]), (7, 24, [.b (rawOf (p.1)).1, .st (magP (rawOf (p.1)).2)]), (8, 24, [.b (rawOf (p.2)).1, .st (magP (rawOf (p.2)).2)]), (9, 24, [.b (rawOf (bM a b)).1, .st (magP (rawOf (bM a b)).2)]), (10, 24, [.b (rawOf (bT a b)).1, .st (magP (rawOf (bT a b)).2)])], 11⟩) (fun p => Turn a b p.1 p.2) (fun p => (-p.1).toNat) (eX a b, eY a b) (Turn.start a b) (le_of ⟨rfl, rfl, rfl, rfl, rfl, rfl, rfl, rfl, rfl, rfl, trivial⟩ ⟨rfl, rfl, rfl, rfl, rfl, rfl, rfl, rfl, rfl, rfl, trivial⟩ rfl) ?_
              rintro ⟨x, y⟩ ht
              dsimp only at ht ⊢
              obtain ⟨lx, ly⟩ := ht.sizes hb0 ha hb
              have lx' : lc x.natAbs ≤ 4096 := by omega
              have ly' : lc y.natAbs ≤ 4096 := by omega
              repeat first | refine Wp_seq ?_ | refine Wp_region tm_mixed ?_ | refine AW_load rfl ty_bool rfl rfl rfl rfl ?_ | refine AW_fieldAddr rfl tf_neg rfl rfl ?_ | refine AW_nil (fun (h : false = true) => by cases h) ?_
              refine Wp_cond rfl (fun hc => ?_) (fun hc => ?_)
              · have hx : x < 0 := of_decide_eq_true hc
                have ht2 := ht.up hb0 hx
                obtain ⟨mx, my⟩ := ht2.sizes hb0 ha hb
                have kA := ct_Add0 x (bM a b) lx' hM1 (by omega)
                have kS := ct_Sub0 y (bT a b) ly' hT2 (by omega)
                repeat first | refine Wp_seq ?_ | refine Wp_region tm_mixed ?_ | refine AW_move rfl rfl ?_ | refine AW_load rfl ty_num rfl rfl rfl rfl ?_ | refine AW_store ty_num rfl rfl rfl rfl rfl rfl rfl ?_ | refine AW_extract rfl rfl rfl ?_ | refine AW_call rfl rfl (by first | exact ct_right _ (Nat.le_of_ble_eq_true rfl) | exact ct_gzeroT _ (by assumption) | exact ct_gzeroF _ (by assumption) | exact ct_gsize _ (by assumption) | exact ct_run _ _ _ ha hb | exact kA | exact kS) ?_ | refine AW_nil (fun (h : false = true) => by cases h) ?_ | refine Wp_block ?_ | refine Wp_skip ?_
                exact ⟨(x + bM a b, y - bT a b), ht2, le_of ⟨rfl, rfl, rfl, rfl, rfl, rfl, rfl, rfl, rfl, rfl, trivial⟩ ⟨rfl, rfl, rfl, rfl, rfl, rfl, rfl, rfl, rfl, rfl, trivial⟩ rfl, by have := bM_pos (a := a) hb0; show (-(x + bM a b)).toNat < (-x).toNat; omega⟩
              · have hx : ¬ x < 0 := of_decide_eq_false hc
                repeat first | refine Wp_block ?_ | refine Wp_exit ?_
                refine Wp_loop (fun p : Int × Int => ⟨[(2, .val (.one (.ptr 0 0))), (3, .val (.one (.ptr 1 0))), (4, .val (.one (.ptr 2 0))), (5, .val (.one (.ptr 3 0))), (6, .val (.one (.ptr 4 0))), (9, .val (.one (.ptr 6 0))), (10, .val (.one (.ptr 7 0))), (11, .val (.one (.ptr 8 0))), (12, .val (.one (.ptr 9 0))), (15, .val (.one (.ptr 10 0)))],
      [(0, 24, [.b (rawOf a).1, .st (magP (rawOf a).2)]), (1, 24, [.b (rawOf b).1, .st (magP (rawOf b).2)]), (2, 24, [.b false, .st (magP [])]), (3, 24, [.b false, .st (magP [])]), (4, 24, [.b false, .st (magP [])]),
       (6, 24, [.b (rawOf (gcdZ a b)).1, .st (magP (rawOf (gcdZ a b)).2)]), (7, 24, [.b (rawOf (p.1)).1, .st (magP (rawOf (p.1)).2)]), (8, 24, [.b (rawOf (p.2)).1, .st (magP (rawOf (p.2)).2)]), (9, 24, [.b (rawOf (bM a b)).1, .st (magP (rawOf (bM a b)).2)]), (10, 24, [.b (rawOf (bT a b)).1, .st (magP (rawOf (bT a b)).2)])], 11⟩) (fun p => Turn a b p.1 p.2 ∧ 0 ≤ p.1) (fun p => p.1.toNat) (x, y) ⟨ht, by show 0 ≤ x; omega⟩ (le_of ⟨rfl, rfl, rfl, rfl, rfl, rfl, rfl, rfl, rfl, rfl, trivial⟩ ⟨rfl, rfl, rfl, rfl, rfl, rfl, rfl, rfl, rfl, rfl, trivial⟩ rfl) ?_
                clear ht lx ly lx' ly' hx hc
                rintro ⟨x, y⟩ ⟨ht, hx⟩
                dsimp only at ht hx ⊢
                obtain ⟨lx, ly⟩ := ht.sizes hb0 ha hb
                have lx' : lc x.natAbs ≤ 4096 := by omega
                have ly' : lc y.natAbs ≤ 4096 := by omega
                have kC := ct_Cmp x (bM a b) lx' hM1
                repeat first | refine Wp_seq ?_ | refine Wp_region tm_mixed ?_ | refine AW_move rfl rfl ?_ | refine AW_assign rfl rfl ?_ | refine AW_load rfl ty_num rfl rfl rfl rfl ?_ | refine AW_extract rfl rfl rfl ?_ | refine AW_call rfl rfl (by first | exact ct_right _ (Nat.le_of_ble_eq_true rfl) | exact ct_gzeroT _ (by assumption) | exact ct_gzeroF _ (by assumption) | exact ct_gsize _ (by assumption) | exact ct_run _ _ _ ha hb | exact kC) ?_ | refine AW_nil (fun (h : false = true) => by cases h) ?_ | refine Wp_block ?_
                refine AW_lt rfl rfl rfl ?_
                repeat first | refine AW_nil (fun (h : false = true) => by cases h) ?_
                refine Wp_cond rfl (fun hc => ?_) (fun hc => ?_)
                · have hlt : x < bM a b := cmpZ_low.1 (of_decide_eq_true hc)
                  obtain ⟨e1, e2⟩ := ht.last hb0 hx hlt
                  repeat first | refine Wp_seq ?_ | refine Wp_region tm_mixed ?_ | refine AW_assign rfl rfl ?_ | refine AW_load rfl ty_num rfl rfl rfl rfl ?_ | refine AW_store ty_num rfl rfl rfl rfl rfl rfl rfl ?_ | refine AW_nil (fun (_ : true = true) => by kernel_rfl) ?_ | refine Wp_ret ?_
                  exact ⟨.inr rfl, _, .cell _ _ _ _ _ _ _ _ _ _ _ ty_num rfl rfl rfl (.cell _ _ _ _ _ _ _ _ _ _ _ ty_num rfl rfl rfl (.cell _ _ _ _ _ _ _ _ _ _ _ ty_num rfl rfl rfl (.tmp _ _ _ _ rfl .nil))), by
                    rw [← e1, ← e2]; rfl⟩
                · have hge : bM a b ≤ x := by have : ¬ x < bM a b := fun h => of_decide_eq_false hc (cmpZ_low.2 h)
                                              omega
                  have ht2 := ht.down hb0 hge
                  obtain ⟨mx, my⟩ := ht2.sizes hb0 ha hb
                  have kA := ct_Add0 y (bT a b) ly' hT2 (by omega)
                  have kS := ct_Sub0 x (bM a b) lx' hM1 (by omega)
                  repeat first | refine Wp_seq ?_ | refine Wp_region tm_mixed ?_ | refine AW_move rfl rfl ?_ | refine AW_load rfl ty_num rfl rfl rfl rfl ?_ | refine AW_store ty_num rfl rfl rfl rfl rfl rfl rfl ?_ | refine AW_extract rfl rfl rfl ?_ | refine AW_call rfl rfl (by first | exact ct_right _ (Nat.le_of_ble_eq_true rfl) | exact ct_gzeroT _ (by assumption) | exact ct_gzeroF _ (by assumption) | exact ct_gsize _ (by assumption) | exact ct_run _ _ _ ha hb | exact kA | exact kS) ?_ | refine AW_nil (fun (h : false = true) => by cases h) ?_ | refine Wp_skip ?_
                  exact ⟨(x - bM a b, y + bT a b), ⟨ht2, by show 0 ≤ x - bM a b; omega⟩, le_of ⟨rfl, rfl, rfl, rfl, rfl, rfl, rfl, rfl, rfl, rfl, trivial⟩ ⟨rfl, rfl, rfl, rfl, rfl, rfl, rfl, rfl, rfl, rfl, trivial⟩ rfl, by have := bM_pos (a := a) hb0; show (x - bM a b).toNat < x.toNat; omega⟩
end Go.Proofs.YtjbagikfogejnaaGreatDoor
/- The package rosettekit: what is lent (limbs with marks behind them), and whether it was kept. -/
namespace Go.Proofs.YtjbagikfogejnaaGreatDoor
open Go.RowKit Go.Deep
/-- The marks behind what is lent. -/
def markN (i : Nat) : Nat := 8000024 + i
def marks (n : Nat) : List Nat := (List.range n).map markN
/-- A record whose limbs are lent. -/
def LentV (w : World) (v : Value) (x : Raw) : Prop := ∃ A l c, v = .agg #[.bool x.1, .slice A l c] ∧ l = x.2.length ∧ l + 12 ≤ c ∧ Lim w w.heap.size A (x.2 ++ marks 12)
theorem LentV.stay {w w' : World} {v : Value} {x : Raw} (h : LentV w v x) (hb : Below w.heap.size w w') : LentV w' v x := by
  obtain ⟨A, l, c, rfl, hl, hc, hlim⟩ := h
  exact ⟨A, l, c, rfl, hl, hc, hlim.stay hb⟩
theorem LentV.put {w w' : World} {g : Nat} {v : Value} {x : Raw} (h : LentV w v x) (p : Put g w w') : LentV w' v x := by
  obtain ⟨A, l, c, rfl, hl, hc, hlim⟩ := h
  exact ⟨A, l, c, rfl, hl, hc, hlim.put p⟩
theorem LentV.raw {w : World} {v : Value} {x : Raw} (h : LentV w v x) : RawV w v x := by
  obtain ⟨A, l, c, rfl, hl, hc, hlim⟩ := h
  refine ⟨A, l, c, rfl, hl, by omega, ?_⟩
  have := hlim.take x.2.length
  rwa [List.take_left] at this
theorem LentV.open {w : World} {v : Value} {x : Raw} (h : LentV w v x) : ∃ b A l c, v = .agg #[.bool b, .slice A l c] ∧ Hid (LentV w (.agg #[.bool b, .slice A l c]) x) := by
  obtain ⟨A, l, c, rfl, hl, hc, hlim⟩ := h
  exact ⟨x.1, A, l, c, rfl, Lib.hid ⟨A, l, c, rfl, hl, hc, hlim⟩⟩
theorem LentV.parts {w : World} {b : Bool} {A : Option Addr} {l c : Nat} {x : Raw} (h : LentV w (.agg #[.bool b, .slice A l c]) x) : b = x.1 ∧ l = x.2.length ∧ l + 12 ≤ c ∧ Lim w w.heap.size A (x.2 ++ marks 12) := by
  obtain ⟨A', l', c', hv, hl, hc, hlim⟩ := h
  injection hv with hv
  have h0 := congrArg (fun a => a[0]?) hv
  have h1 := congrArg (fun a => a[1]?) hv
  simp at h0 h1
  obtain ⟨rfl, rfl, rfl⟩ := h1
  exact ⟨h0, hl, hc, hlim⟩
theorem Box2.write1 {w : World} {g : Nat} {b : Bool} {A : Option Addr} {l c : Nat} (h : Box2 w g (.bool b) (.slice A l c)) (y : Value) :
    ∃ W, w.setCell ⟨g, 1, none⟩ y = W ∧ Hid (Box2 W g (.bool b) y) ∧ Put g w W := by
  refine ⟨_, rfl, Lib.hid ?_, ⟨?_, fun _ _ _ hf => Fresh.set hf g 1 y⟩⟩
  · unfold Box2 at h ⊢
    simp [World.setCell, Array.getElem?_modify, h]
  · refine ⟨rfl, rfl, rfl, by simp, fun i hi hn => ?_, fun i hi _ => by subst hi; exact h.nums⟩
    rw [Below.heap_setCell _ _ _ i (by simpa using hn)]
end Go.Proofs.YtjbagikfogejnaaGreatDoor
/- The package rosetteref00: short, times, less, long. -/
namespace Go.Proofs.YtjbagikfogejnaaGreatDoor
open Go.RowKit Go.Deep
theorem val32_drop_step (xs : List Nat) (k : Nat) (hk : k < xs.length) : val32 (xs.drop k) = xs.getD k 0 + W32 * val32 (xs.drop (k + 1)) := by
  rw [List.drop_eq_getElem_cons hk]
  show xs[k] + W32 * _ = _
  simp [hk]
theorem val32_drop_set (os : List Nat) (k x : Nat) (hk : k < os.length) : val32 ((os.set k x).drop k) = x + W32 * val32 (os.drop (k + 1)) := by
  rw [drop_set_self os k x hk]
  rfl
theorem short_step {D b rest X x s q r : Nat} (h : D * b + rest = X) (hs : s = rest * W32 + x) (hq : s / b = q) (hr : s % b = r) : (q + W32 * D) * b + r = x + W32 * X := by
  have h1 := Nat.div_add_mod s b
  rw [hq, hr, hs, Nat.mul_comm b q] at h1
  rw [← h, Nat.add_mul, Nat.mul_add, Nat.mul_comm rest W32] at *
  rw [Nat.mul_assoc]
  omega
set_option maxHeartbeats 400000 in
set_option maxRecDepth 100000 in
theorem ref_short (A : Option Addr) (l c b : Nat) (xs : List Nat) (w : World) (h1 : Lim w w.heap.size A xs) (tx : Tiny xs) (e1 : l = xs.length) (hl : l ≤ 549755813888) (hb1 : 1 ≤ b) (hb2 : b < W32) :
    Calls Tryz.prog 113 #[.slice A l c, .int .u64 (b : Int)] w fun e w' => ∃ A' l' c' zs, e = .returned (.tuple #[.slice A' l' c', .int .u64 ((val32 xs % b : Nat) : Int)]) ∧ l' = zs.length ∧ l' ≤ c' ∧ zs.length ≤ l ∧ Lim w' w'.heap.size A' zs ∧ Tiny zs ∧ Norm zs ∧ val32 zs = val32 xs / b ∧ Below w.heap.size w w' := by
  have E1 := Lib.hid e1
  have TX := Lib.hid tx
  have HB := Lib.hid (And.intro hb1 hb2)
  have hlI : (l : Int) ≤ 549755813888 := by omega
  have hmk := make_limbs l (by omega)
  have hb0 : ¬ (b : Int) = 0 := by omega
  have hb0b : ((b : Int) == 0) = false := beq_eq_false_iff_ne.2 hb0
  have hb0n : ¬ b = 0 := by omega
  clear e1 tx hl hb1 hb2
  go_enter Tryz.func113, Tryz.ntmps113
  go_wp2_with fail
  go_loopw [7, 8] (fun t7 t8 wr => ∃ (k rest : Nat) (os : List Nat), k ≤ l ∧ t7 = .int .u64 (rest : Int) ∧ t8 = .int .i64 ((k : Int) - 1) ∧ rest < b ∧ os.length = l ∧ Tiny os ∧ Row wr w.heap.size os ∧ Below w.heap.size w wr ∧ val32 (os.drop k) * b + rest = val32 (xs.drop k)) (fun _ t8 _ => (intOf t8 + 1).toNat)
  case atStart =>
    exact ⟨l, 0, List.replicate l 0, Nat.le_refl _, rfl, rfl, by have := HB.out; omega, by simp, Tiny.zeros l, Row.made _ _, (Below.refl _ _).alloc (Nat.le_refl _) _, by
      rw [List.drop_of_length_le (by simp), List.drop_of_length_le (by rw [← E1.out]; exact Nat.le_refl _)]; simp [val32]⟩
  case round =>
    obtain ⟨k, rest, os, hk, rfl, rfl, hr, ho, hto, hrow, hbel, hval⟩ := hrel
    have HO := Lib.hid ho
    have HTO := Lib.hid hto
    have HV := Lib.hid hval
    have HR := Lib.hid hr
    have HK := Lib.hid hk
    clear ho hto hval hr hk
    rcases k with _ | k
    · have hlim := hrow.lim (B := wr.heap.size) hrow.lt
      have HVV := Lib.hid HV.out
      have HTR := Lib.hid (length_trimL_le os)
      have HMO := Lib.hid HO.out.symm
      have HDM : Hid (val32 os = val32 xs / b ∧ rest = val32 xs % b) := Lib.hid (by
        have h := HV.out
        rw [List.drop_zero, List.drop_zero] at h
        have hr := HR.out
        have hbp := HB.out.1
        rw [← h, Nat.mul_comm]
        rw [Nat.mul_add_div (by omega), Nat.mul_add_mod, Nat.div_eq_of_lt hr, Nat.mod_eq_of_lt hr]
        exact ⟨by omega, rfl⟩)
      go_wp2_with fail
      refine (ref_low _ l l os wr hlim HMO.out (Nat.le_refl _) (by omega)).mono ?_
      rintro e w2 ⟨rfl, rfl⟩
      go_wp2_with fail
      go_ret2
      have h5 := hlim.take (trimL os).length
      rw [← trimL_prefix] at h5
      refine ⟨some ⟨w.heap.size, 0, none⟩, (trimL os).length, l, trimL os, ?_, rfl, by have := HTR.out; have := HO.out; omega, by have := HTR.out; have := HO.out; omega, h5, HTO.out.trim, norm_trimL _, by rw [val32_trim]; exact HDM.out.1, hbel⟩
      rw [← HDM.out.2]
      rfl
    · have e1 : ((k + 1 : Nat) : Int) - 1 = (k : Int) := by omega
      have hk0 : (0 : Int) ≤ (k : Int) := by omega
      have hklI : (k : Int) < (l : Int) := by have := HK.out; omega
      rw [e1]
      have HKX := Lib.hid (show k < xs.length by rw [← E1.out]; exact HK.out)
      have HKO := Lib.hid (show k < os.length by rw [HO.out]; exact HK.out)
      obtain ⟨ax, rfl, _, hcx⟩ := (h1.below hbel).at_ HKX.out
      obtain ⟨x, hx⟩ : ∃ x, xs.getD k 0 = x := ⟨_, rfl⟩
      have HXT := Lib.hid (show x < W32 by rw [← hx]; exact TX.out.getD k)
      have HX := Lib.hid hx
      rw [hx] at hcx
      have hco := hrow.cell (k := k) HKO.out
      have hfo := hrow.free k
      obtain ⟨o, hoo⟩ : ∃ o, os.getD k 0 = o := ⟨_, rfl⟩
      rw [hoo] at hco
      obtain ⟨p, hp⟩ : ∃ p, rest * 4294967296 = p := ⟨_, rfl⟩
      obtain ⟨s, hs⟩ : ∃ s, p + x = s := ⟨_, rfl⟩
      obtain ⟨sd, hsd⟩ : ∃ sd, s / b = sd := ⟨_, rfl⟩
      obtain ⟨sm, hsm⟩ : ∃ sm, s % b = sm := ⟨_, rfl⟩
      have HSB := Lib.hid (show s < b * W32 by
        have h1 := HR.out
        have h2 := HXT.out
        rw [W32_eq] at h2 ⊢
        omega)
      have HSW := Lib.hid (show s < W64 ∧ p < W64 by
        have h1 := HSB.out
        have h2 := Nat.mul_lt_mul_of_lt_of_le HB.out.2 (Nat.le_refl W32) W32_pos
        rw [← W64_sq] at h2
        omega)
      have hpI : (rest : Int) * 4294967296 = (p : Int) := by omega
      have hsI : (p : Int) + (x : Int) = (s : Int) := by omega
      have hsdI : (s : Int) / (b : Int) = (sd : Int) := by rw [← hsd]; simp
      have hsmI : (s : Int) % (b : Int) = (sm : Int) := by rw [← hsm]; simp
      have wp : IntKind.u64.wrap (p : Int) = (p : Int) := wrap64_in HSW.out.2
      have ws : IntKind.u64.wrap (s : Int) = (s : Int) := wrap64_in HSW.out.1
      have HSM := Lib.hid (show sd < W32 ∧ sm < b from ⟨by rw [← hsd]; exact Nat.div_lt_of_lt_mul HSB.out, by rw [← hsm]; exact Nat.mod_lt _ HB.out.1⟩)
      have wd : IntKind.u64.wrap (sd : Int) = (sd : Int) := wrap64_in (Nat.lt_trans HSM.out.1 W32_lt)
      have wm : IntKind.u64.wrap (sm : Int) = (sm : Int) := wrap64_in (Nat.lt_trans HSM.out.2 (Nat.lt_trans HB.out.2 W32_lt))
      have HST := Lib.hid (show val32 ((os.set k sd).drop k) * b + sm = val32 (xs.drop k) by
        rw [val32_drop_set os k sd HKO.out, val32_drop_step xs k HKX.out, HX.out]
        exact short_step (s := s) HV.out (by rw [W32_eq]; omega) hsd hsm)
      have HLEN := Lib.hid (show (os.set k sd).length = l by rw [List.length_set, HO.out])
      clear hx hoo hp hs hsd hsm
      have HS2 := Lib.hid hsmI
      clear hsmI
      go_wp2_with fail
      exact ⟨⟨k, sm, os.set k sd, by have := HK.out; omega, by rw [HS2.out], rfl, HSM.out.2, HLEN.out, HTO.out.set _ _ HSM.out.1, hrow.set HKO.out (Nat.lt_trans HSM.out.1 W32_lt), hbel.setCell (Nat.le_refl _) _, HST.out⟩, by simp [intOf]⟩
theorem tim_step {P V b cy A x s : Nat} (h : V + cy * P = A * b) (hs : s = x * b + cy) : V + P * (s % W32) + s / W32 * (P * W32) = (A + P * x) * b := by
  have h1 := Nat.div_add_mod s W32
  rw [Nat.add_mul, ← h]
  have e1 : P * x * b = P * (x * b) := Nat.mul_assoc _ _ _
  have e2 : s / W32 * (P * W32) = P * (W32 * (s / W32)) := by ac_rfl
  have e3 : cy * P = P * cy := Nat.mul_comm _ _
  rw [e1, e2, e3]
  rw [Nat.add_assoc, Nat.add_assoc, ← Nat.mul_add, ← Nat.mul_add]
  congr 2
  omega
theorem times_bound {x b cy : Nat} (hx : x < W32) (hb : b < W32) (hc : cy < W32) : x * b + cy < W64 := by
  have h := step_bound (o := 0) hx hb W32_pos hc
  omega
set_option maxHeartbeats 400000 in
set_option maxRecDepth 100000 in
theorem ref_times (A : Option Addr) (l c b m : Nat) (xs : List Nat) (w : World) {B : Nat} (h1 : Lim w B A xs) (hB : B ≤ w.heap.size) (tx : Tiny xs) (e1 : l = xs.length) (hb2 : b < W32) (hm : m ≤ 549755813888) :
    Calls Tryz.prog 154 #[.slice A l c, .int .u64 (b : Int), .int .i64 (m : Int)] w fun e w' => ∃ zs cy, e = .returned (.slice (some ⟨w.heap.size, 0, none⟩) m m) ∧ zs.length = m ∧ Row w' w.heap.size zs ∧ Tiny zs ∧ val32 zs + cy * W32 ^ m = val32 (xs.take m) * b ∧ Below w.heap.size w w' := by
  have E1 := Lib.hid e1
  have TX := Lib.hid tx
  have HB := Lib.hid hb2
  have hmI : (m : Int) ≤ 549755813888 := by omega
  have hmk := make_limbs m (by omega)
  clear e1 tx hm hb2
  go_enter Tryz.func154, Tryz.ntmps154
  go_wp2_with fail
  go_loopw [8, 9] (fun t8 t9 wr => ∃ (k cy : Nat) (os : List Nat), k ≤ m ∧ t8 = .int .u64 (cy : Int) ∧ t9 = .int .i64 (k : Int) ∧ cy < W32 ∧ os.length = m ∧ Tiny os ∧ Row wr w.heap.size os ∧ Below w.heap.size w wr ∧ val32 (os.take k) + cy * W32 ^ k = val32 (xs.take k) * b) (fun _ t9 _ => m - (intOf t9).toNat)
  case atStart =>
    exact ⟨0, 0, List.replicate m 0, by omega, rfl, rfl, W32_pos, by simp, Tiny.zeros m, Row.made _ _, (Below.refl _ _).alloc (Nat.le_refl _) _, by simp [val32]⟩
  case round =>
    obtain ⟨k, cy, os, hk, rfl, rfl, hcy, ho, hto, hrow, hbel, hval⟩ := hrel
    have HO := Lib.hid ho
    have HTO := Lib.hid hto
    have HV := Lib.hid hval
    have HCY := Lib.hid hcy
    clear ho hto hval hcy
    by_cases hkm : k < m
    · have hkI : (k : Int) < (m : Int) := by omega
      have HKO := Lib.hid (show k < os.length by rw [HO.out]; exact hkm)
      have HKM := Lib.hid hkm
      clear hk hkm
      go_wp2_with fail
      refine (ref_digit A l c k xs wr (h1.below (hbel.mono hB)) E1.out).mono ?_
      rintro e w2 ⟨rfl, rfl⟩
      obtain ⟨x, hx⟩ : ∃ x, xs.getD k 0 = x := ⟨_, rfl⟩
      have HXT := Lib.hid (show x < W32 by rw [← hx]; exact TX.out.getD k)
      have HX := Lib.hid hx
      rw [hx]
      have hco := hrow.cell (k := k) HKO.out
      have hfo := hrow.free k
      obtain ⟨o, hoo⟩ : ∃ o, os.getD k 0 = o := ⟨_, rfl⟩
      rw [hoo] at hco
      obtain ⟨p, hp⟩ : ∃ p, x * b = p := ⟨_, rfl⟩
      obtain ⟨s, hs⟩ : ∃ s, p + cy = s := ⟨_, rfl⟩
      obtain ⟨sm, hsm⟩ : ∃ sm, s % 4294967296 = sm := ⟨_, rfl⟩
      obtain ⟨sd, hsd⟩ : ∃ sd, s / 4294967296 = sd := ⟨_, rfl⟩
      have HSB := Lib.hid (show s < W64 by rw [← hs, ← hp]; exact times_bound HXT.out HB.out HCY.out)
      have hpI : (x : Int) * (b : Int) = (p : Int) := by rw [← hp]; simp
      have hsI : (p : Int) + (cy : Int) = (s : Int) := by omega
      have hsmI : (s : Int) % 4294967296 = (sm : Int) := by omega
      have hsdI : (s : Int) / 4294967296 = (sd : Int) := by omega
      have wp : IntKind.u64.wrap (p : Int) = (p : Int) := wrap64_in (by have := HSB.out; omega)
      have ws : IntKind.u64.wrap (s : Int) = (s : Int) := wrap64_in HSB.out
      have wm : IntKind.u64.wrap (sm : Int) = (sm : Int) := wrap64_in (by have := HSB.out; omega)
      have wd : IntKind.u64.wrap (sd : Int) = (sd : Int) := wrap64_in (by have := HSB.out; omega)
      have HSM := Lib.hid (show sm < W32 ∧ sd < W32 from ⟨by rw [← hsm, ← W32_eq]; exact Nat.mod_lt _ W32_pos, by rw [← hsd, ← W32_eq]; exact div32_lt HSB.out⟩)
      have HST := Lib.hid (show val32 ((os.set k sm).take (k + 1)) + sd * W32 ^ (k + 1) = val32 (xs.take (k + 1)) * b by
        rw [val32_take_step xs k, HX.out, take_set_succ os k sm HKO.out, val32_snoc, List.length_take, Nat.min_eq_left (Nat.le_of_lt HKO.out), Nat.pow_succ]
        have h := tim_step (s := s) HV.out (show s = x * b + cy by omega)
        rwa [W32_eq, hsm, hsd, ← W32_eq] at h)
      have HLEN := Lib.hid (show (os.set k sm).length = m by rw [List.length_set, HO.out])
      clear hx hoo hp hs hsm hsd
      go_wp2_with fail
      exact ⟨⟨k + 1, sd, os.set k sm, HKM.out, rfl, by go_num, HSM.out.2, HLEN.out, HTO.out.set _ _ HSM.out.1, hrow.set HKO.out (Nat.lt_trans HSM.out.1 W32_lt), hbel.setCell (Nat.le_refl _) _, HST.out⟩, by have := HKM.out; simp [intOf]; omega⟩
    · obtain rfl : m = k := by omega
      have HVF := Lib.hid (show val32 os + cy * W32 ^ m = val32 (xs.take m) * b by
        have h := HV.out
        rwa [List.take_of_length_le (by rw [HO.out]; exact Nat.le_refl _)] at h)
      clear hkm
      go_wp2_with fail
      go_ret
      exact ⟨os, cy, rfl, HO.out, hrow, HTO.out, HVF.out, hbel⟩
end Go.Proofs.YtjbagikfogejnaaGreatDoor
/- The package rosetteref00: less. -/
namespace Go.Proofs.YtjbagikfogejnaaGreatDoor
open Go.RowKit Go.Deep
theorem val32_split (xs : List Nat) (k : Nat) (hk : k ≤ xs.length) : val32 xs = val32 (xs.take k) + W32 ^ k * val32 (xs.drop k) := by
  have h := val32_append (xs.take k) (xs.drop k)
  rwa [List.take_append_drop, List.length_take, Nat.min_eq_left hk] at h
theorem val32_lt_top {xs ys : List Nat} (h1 : Tiny xs) (hl : xs.length = ys.length) {k : Nat} (hk : k < xs.length) (hd : xs.drop (k + 1) = ys.drop (k + 1)) (hlt : xs.getD k 0 < ys.getD k 0) : val32 xs < val32 ys := by
  rw [val32_split xs k (by omega), val32_split ys k (by omega), val32_drop_step xs k hk, val32_drop_step ys k (by omega), hd]
  have h2 : val32 (xs.take k) < W32 ^ k := by
    have h := val32_lt (h1.take k)
    rwa [List.length_take, Nat.min_eq_left (by omega)] at h
  generalize val32 (ys.drop (k + 1)) = D
  have h3 : W32 ^ k * (xs.getD k 0 + W32 * D) + W32 ^ k ≤ W32 ^ k * (ys.getD k 0 + W32 * D) := step_lt (W32 ^ k) (W32 * D) hlt
  omega
theorem win_get (us : List Nat) (p m j : Nat) (hj : j < m) : ((us.drop p).take m).getD j 0 = us.getD (p + j) 0 := by
  simp [List.getD_eq_getElem?_getD, hj, List.getElem?_drop]
/-- What is left of a window of digits. -/
structure Taken (us us' : List Nat) (p m P : Nat) : Prop where
  len : us'.length = us.length
  tiny : Tiny us'
  low : us'.take p = us.take p
  high : us'.drop (p + m) = us.drop (p + m)
  is : val32 ((us'.drop p).take m) + P = val32 ((us.drop p).take m)
set_option maxHeartbeats 1000000 in
set_option maxRecDepth 100000 in
theorem ref_less (g L c p n q : Nat) (us : List Nat) (A2 : Option Addr) (c2 : Nat) (ys : List Nat) (w : World) (hrow : Row w g us) (hL : L = us.length) (hp : p + (n + 1) ≤ us.length) (tu : Tiny us) (h2 : Lim w w.heap.size A2 ys) (ty : Tiny ys) (e2 : n = ys.length) (hq : q < W32) (hl : us.length ≤ 549755813888) :
    Calls Tryz.prog 155 #[.slice (some ⟨g, 0, none⟩) L c, .int .i64 (p : Int), .slice A2 n c2, .int .u64 (q : Int)] w fun e w' => ∃ us', e = .returned (.bool (decide (val32 ys * q ≤ val32 ((us.drop p).take (n + 1))))) ∧ Row w' g us' ∧ w.grownBy w' (some g) ∧ (val32 ys * q ≤ val32 ((us.drop p).take (n + 1)) → Taken us us' p (n + 1) (val32 ys * q)) ∧ (¬ val32 ys * q ≤ val32 ((us.drop p).take (n + 1)) → us' = us) := by
  have HR0 := Lib.hid hrow
  have HLL := Lib.hid hL
  have HP := Lib.hid hp
  have TU := Lib.hid tu
  have TY := Lib.hid ty
  have E2 := Lib.hid e2
  have HQ := Lib.hid hq
  have HL := Lib.hid hl
  have hnI : (n : Int) + 1 ≤ 549755813888 := by omega
  have hpI : (p : Int) + (n : Int) + 1 ≤ 549755813888 := by omega
  have hLI : (p : Int) + (n : Int) + 1 ≤ (L : Int) := by omega
  obtain ⟨ws, hws⟩ : ∃ ws, (us.drop p).take (n + 1) = ws := ⟨_, rfl⟩
  have HWS := Lib.hid hws
  have HWL := Lib.hid (show ws.length = n + 1 by rw [← hws, List.length_take, List.length_drop]; omega)
  have HWG : Hid (∀ j, j < n + 1 → ws.getD j 0 = us.getD (p + j) 0) := Lib.hid (fun j hj => by rw [← hws]; exact win_get us p (n + 1) j hj)
  have HWT := Lib.hid (show Tiny ws by rw [← hws]; exact Tiny.take (fun y hy => tu y (List.mem_of_mem_drop hy)) _)
  obtain ⟨V, hV⟩ : ∃ V, val32 ys * q = V := ⟨_, rfl⟩
  have HVV := Lib.hid hV
  rw [hws, hV]
  clear hrow hL hp tu ty e2 hq hl hws hV
  go_enter Tryz.func155, Tryz.ntmps155
  go_wp2_with fail
  have kt := ref_times A2 n c2 q (n + 1) ys w h2 (Nat.le_refl _) TY.out E2.out HQ.out (by omega)
  rw [show ((n + 1 : Nat) : Int) = (n : Int) + 1 by omega] at kt
  refine kt.mono ?_
  clear kt
  rintro e w1 ⟨ps, cy, rfl, hpl, hprow, hpt, hpv, hb1⟩
  have HPV := Lib.hid (show val32 ps = V by
    rw [← HVV.out]
    rw [List.take_of_length_le (by have := E2.out; omega)] at hpv
    have h1 : val32 ys * q < W32 ^ (n + 1) := by
      have h := val32_lt TY.out
      rw [← E2.out] at h
      rw [Nat.pow_succ]
      exact Nat.mul_lt_mul'' h HQ.out
    rcases Nat.eq_zero_or_pos cy with h0 | h0
    · subst h0; omega
    · have h3 := Nat.le_mul_of_pos_left (W32 ^ (n + 1)) h0
      omega)
  have HPL := Lib.hid hpl
  have HPT := Lib.hid hpt
  obtain ⟨gp, hgp⟩ : ∃ gp, w.heap.size = gp := ⟨_, rfl⟩
  have HGP := Lib.hid (show gp ≠ g by have := HR0.out.lt; omega)
  have hrow1 := HR0.out.call hb1
  rw [hgp] at hprow ⊢
  have HB1 := Lib.hid hb1
  have HG1 := Lib.hid hprow.lt
  clear hpv hpl hpt hgp hb1 h2
  go_upto_block 0 with (fail)
  go_cut [] (fun wx => Row wx g us ∧ Row wx gp ps ∧ Below w1.heap.size w1 wx ∧ V ≤ val32 ws)
  case first =>
    go_wp2_with fail
    go_loopw [10] (fun t10 wr => ∃ k : Nat, k ≤ n + 1 ∧ t10 = .int .i64 ((k : Int) - 1) ∧ Row wr g us ∧ Row wr gp ps ∧ Below w1.heap.size w1 wr ∧ ps.drop k = ws.drop k) (fun t10 _ => (intOf t10 + 1).toNat)
    case atStart => exact ⟨n + 1, Nat.le_refl _, by go_num, hrow1, hprow, Below.refl _ _, by rw [List.drop_of_length_le (by rw [HPL.out]; exact Nat.le_refl _), List.drop_of_length_le (by rw [HWL.out]; exact Nat.le_refl _)]⟩
    case round =>
      clear hrow1 hprow
      obtain ⟨k, hk, rfl, hru, hrp, hbe, hsame⟩ := hrel
      have HK := Lib.hid hk
      have HSM := Lib.hid hsame
      have HBE := Lib.hid hbe
      clear hk hsame hbe
      rcases k with _ | k
      · have HEQ : Hid (V ≤ val32 ws) := Lib.hid (by
          have h := HSM.out
          rw [List.drop_zero, List.drop_zero] at h
          rw [← HPV.out, h]
          exact Nat.le_refl _)
        go_wp2_with fail
        go_meet
        exact ⟨hru, hrp, HBE.out, HEQ.out⟩
      · have e1 : ((k + 1 : Nat) : Int) - 1 = (k : Int) := by omega
        have hk0 : (0 : Int) ≤ (k : Int) := by omega
        have hkn : (k : Int) ≤ (n : Int) := by have := HK.out; omega
        rw [e1]
        obtain ⟨d, hd⟩ : ∃ d, p + k = d := ⟨_, rfl⟩
        have hdI : (p : Int) + (k : Int) = (d : Int) := by omega
        have hdL : (d : Int) < (L : Int) := by omega
        have HKP := Lib.hid (show k < ps.length by rw [HPL.out]; have := HK.out; omega)
        have hcp := hrp.cell (k := k) HKP.out
        have hcu := hru.cell (k := d) (by have := HP.out; have := HK.out; omega)
        obtain ⟨x, hx⟩ : ∃ x, ps.getD k 0 = x := ⟨_, rfl⟩
        obtain ⟨y, hy⟩ : ∃ y, us.getD d 0 = y := ⟨_, rfl⟩
        have HX := Lib.hid hx
        have HY : Hid (ws.getD k 0 = y) := Lib.hid (by rw [HWG.out k (by have := HK.out; omega), hd, hy])
        rw [hx] at hcp
        rw [hy] at hcu
        clear hx hy hd
        by_cases hlt : x < y
        · have hltI : (x : Int) < (y : Int) := by omega
          have HLT : Hid (V ≤ val32 ws) := Lib.hid (by
            rw [← HPV.out]
            exact Nat.le_of_lt (val32_lt_top HPT.out (by rw [HPL.out, HWL.out]) HKP.out HSM.out (by rw [HX.out, HY.out]; exact hlt)))
          clear hlt
          go_wp2_with fail
          go_quiet (fail)
          go_wp2_with fail
          go_meet
          exact ⟨hru.drewN _, hrp.drewN _, below_drewN HBE.out _, HLT.out⟩
        · have t1 : decide (x < y) = false := decide_eq_false hlt
          have HT1 := Lib.hid t1
          by_cases hgt : y < x
          · have t2 : decide (y < x) = true := decide_eq_true hgt
            have HGT : Hid (val32 ws < V) := Lib.hid (by
              rw [← HPV.out]
              exact val32_lt_top HWT.out (by rw [HPL.out, HWL.out]) (by rw [HWL.out, ← HPL.out]; exact HKP.out) HSM.out.symm (by rw [HX.out, HY.out]; exact hgt))
            clear hlt hgt
            go_wp2_with fail
            go_quiet (fail)
            have hru2 := hru.drewN nq
            have hrp2 := hrp.drewN nq
            have HBE2 := Lib.hid (below_drewN HBE.out nq)
            have hcp2 : (wr.drewN nq).cell? ⟨gp, k, none⟩ = some (.int .u64 (x : Int)) := hcp
            have hcu2 : (wr.drewN nq).cell? ⟨g, d, none⟩ = some (.int .u64 (y : Int)) := hcu
            generalize wr.drewN nq = wq at hru2 hrp2 HBE2 hcp2 hcu2 ⊢
            clear hcp hcu hru hrp HBE
            go_wp2_with fail
            go_quiet (fail)
            go_wp2_with fail
            go_ret
            exact ⟨us, by rw [decide_eq_false (show ¬ V ≤ val32 ws from by have := HGT.out; omega)]; rfl, hru2.drewN _, grownBy_of_below (HB1.out.trans ((below_drewN HBE2.out _).mono HB1.out.size)) _, fun h => absurd h (by have := HGT.out; omega), fun _ => rfl⟩
          · have t2 : decide (y < x) = false := decide_eq_false hgt
            have HEQ : Hid (ps.drop k = ws.drop k) := Lib.hid (by
              have h3 : ps.getD k 0 = ws.getD k 0 := by rw [HX.out, HY.out]; omega
              exact drop_same (by rw [HPL.out, HWL.out]) HKP.out HSM.out h3)
            clear hlt hgt
            go_wp2_with fail
            go_quiet (fail)
            have hru2 := hru.drewN nq
            have hrp2 := hrp.drewN nq
            have HBE2 := Lib.hid (below_drewN HBE.out nq)
            have hcp2 : (wr.drewN nq).cell? ⟨gp, k, none⟩ = some (.int .u64 (x : Int)) := hcp
            have hcu2 : (wr.drewN nq).cell? ⟨g, d, none⟩ = some (.int .u64 (y : Int)) := hcu
            generalize wr.drewN nq = wq at hru2 hrp2 HBE2 hcp2 hcu2 ⊢
            clear hcp hcu hru hrp HBE
            go_wp2_with fail
            go_quiet (fail)
            go_wp2_with fail
            exact ⟨⟨k, by have := HK.out; omega, rfl, hru2.drewN _, hrp2.drewN _, below_drewN HBE2.out _, HEQ.out⟩, by simp [intOf]⟩
  case rest =>
    obtain ⟨hru, hrp, hbe, hle⟩ := hcut
    have HLE := Lib.hid hle
    have HBC := Lib.hid (HB1.out.trans (hbe.mono HB1.out.size))
    have HGL := Lib.hid hru.lt
    have HBE := Lib.hid hbe
    clear hrow1 hprow hle hbe
    go_wp2_with fail
    go_loopw [11, 12] (fun t11 t12 wr => ∃ (i cr : Nat) (os : List Nat), i ≤ n + 1 ∧ t11 = .int .u64 (cr : Int) ∧ t12 = .int .i64 (i : Int) ∧ cr ≤ 1 ∧ os.length = us.length ∧ Tiny os ∧ Row wr g os ∧ Row wr gp ps ∧ wc.grownBy wr (some g) ∧ os.take p = us.take p ∧ os.drop (p + i) = us.drop (p + i) ∧ val32 ((os.drop p).take i) + val32 (ps.take i) = val32 (ws.take i) + cr * W32 ^ i) (fun _ t12 _ => n + 2 - (intOf t12).toNat)
    case atStart => exact ⟨0, 0, us, by omega, rfl, rfl, by omega, rfl, TU.out, hru, hrp, World.grownBy.refl _ _, rfl, rfl, by simp [val32]⟩
    case round =>
      clear hru hrp
      obtain ⟨i, cr, os, hi, rfl, rfl, hcr, ho, hto, hro, hrp, hgr, htk, hdr, hval⟩ := hrel
      have HI := Lib.hid hi
      have HCR := Lib.hid hcr
      have HO := Lib.hid ho
      have HTO := Lib.hid hto
      have HGR := Lib.hid hgr
      have HTK := Lib.hid htk
      have HDR := Lib.hid hdr
      have HV := Lib.hid hval
      clear hi hcr ho hto hgr htk hdr hval
      by_cases hin : i ≤ n
      · have hinI : (i : Int) ≤ (n : Int) := by omega
        have HIN := Lib.hid hin
        obtain ⟨d, hd⟩ : ∃ d, p + i = d := ⟨_, rfl⟩
        have hdI : (p : Int) + (i : Int) = (d : Int) := by omega
        have hdL : (d : Int) < (L : Int) := by omega
        have HD := Lib.hid hd
        have HDO := Lib.hid (show d < os.length by rw [HO.out]; have := HP.out; omega)
        have HIP := Lib.hid (show i < ps.length by rw [HPL.out]; omega)
        have hcp := hrp.cell (k := i) HIP.out
        have hcu := hro.cell (k := d) HDO.out
        obtain ⟨y, hy⟩ : ∃ y, ps.getD i 0 = y := ⟨_, rfl⟩
        obtain ⟨x, hx⟩ : ∃ x, os.getD d 0 = x := ⟨_, rfl⟩
        rw [hy] at hcp
        rw [hx] at hcu
        have HY := Lib.hid hy
        have HX : Hid (ws.getD i 0 = x) := Lib.hid (by
          rw [HWG.out i (by omega), hd, ← hx]
          have h := HDR.out
          rw [hd] at h
          exact (getD_of_drop h).symm)
        have HYT := Lib.hid (show y < W32 by rw [← hy]; exact HPT.out.getD i)
        have HXT := Lib.hid (show x < W32 by rw [← hx]; exact HTO.out.getD d)
        obtain ⟨s1, hs1⟩ : ∃ s1, 4294967296 + x = s1 := ⟨_, rfl⟩
        obtain ⟨s2, hs2⟩ : ∃ s2, s1 - y = s2 := ⟨_, rfl⟩
        obtain ⟨s, hs⟩ : ∃ s, s2 - cr = s := ⟨_, rfl⟩
        obtain ⟨sm, hsm⟩ : ∃ sm, s % 4294967296 = sm := ⟨_, rfl⟩
        obtain ⟨sd, hsd⟩ : ∃ sd, 1 - s / 4294967296 = sd := ⟨_, rfl⟩
        have hb2 := HYT.out
        have hb3 := HXT.out
        have hb4 := HCR.out
        rw [W32_eq] at hb2 hb3
        have HBS := Lib.hid (show s < W64 ∧ s2 < W64 ∧ s1 < W64 by rw [W64_eq]; omega)
        have hs1I : (4294967296 : Int) + (x : Int) = (s1 : Int) := by omega
        have hs2I : (s1 : Int) - (y : Int) = (s2 : Int) := by omega
        have hsI : (s2 : Int) - (cr : Int) = (s : Int) := by omega
        have hsmI : (s : Int) % 4294967296 = (sm : Int) := by omega
        have hsdI : (1 : Int) - (s : Int) / 4294967296 = (sd : Int) := by omega
        have w1' : IntKind.u64.wrap (s1 : Int) = (s1 : Int) := wrap64_in HBS.out.2.2
        have w2' : IntKind.u64.wrap (s2 : Int) = (s2 : Int) := wrap64_in HBS.out.2.1
        have w3' : IntKind.u64.wrap (s : Int) = (s : Int) := wrap64_in HBS.out.1
        have HST := Lib.hid (sub_step (s := s) (t := sd) (x := x) (y := y) HV.out (by rw [W32_eq]; omega) HCR.out HXT.out (by rw [W32_eq]; omega))
        have w4' : IntKind.u64.wrap (sm : Int) = (sm : Int) := wrap64_in (by rw [W64_eq]; omega)
        have w5' : IntKind.u64.wrap (sd : Int) = (sd : Int) := wrap64_in (by rw [W64_eq]; have := HST.out.2.1; omega)
        have HSM := Lib.hid (show sm < W32 by rw [W32_eq]; omega)
        have HSE := Lib.hid (show sm = s % W32 by rw [W32_eq]; omega)
        clear hin hd hy hx hs1 hs2 hs hsm hsd hb2 hb3 hb4
        go_wp2_with fail
        go_quiet (fail)
        have hro2 := hro.drewN nq
        have hrp2 := hrp.drewN nq
        have HGR2 := Lib.hid (grownBy_trans HGR.out (grownBy_of_below (below_drewN (Below.refl _ wr) nq) _))
        have hcu2 : (wr.drewN nq).cell? ⟨g, d, none⟩ = some (.int .u64 (x : Int)) := hcu
        generalize wr.drewN nq = wq at hro2 hrp2 HGR2 hcu2 ⊢
        have hfo := hro2.free d
        have HFIN : Hid ((os.set d sm).take p = us.take p ∧ (os.set d sm).drop (p + (i + 1)) = us.drop (p + (i + 1)) ∧ val32 (((os.set d sm).drop p).take (i + 1)) + val32 (ps.take (i + 1)) = val32 (ws.take (i + 1)) + sd * W32 ^ (i + 1)) := Lib.hid (by
          have hd := HD.out
          refine ⟨?_, ?_, ?_⟩
          · rw [← HTK.out, List.take_set_of_le (by omega)]
          · have h := drop_more HDR.out 1
            rw [Nat.add_assoc] at h
            rw [List.drop_set_of_lt (by omega)]
            exact h
          · rw [← hd, drop_set_add, take_set_succ _ i sm (by rw [List.length_drop, HO.out]; have := HP.out; have := HIN.out; omega), val32_snoc, val32_take_step ps i, val32_take_step ws i, HY.out, HX.out, List.length_take, Nat.min_eq_left (by rw [List.length_drop, HO.out]; have := HP.out; have := HIN.out; omega), Nat.pow_succ, HSE.out]
            have h := HST.out.1
            omega)
        clear hcu hcp hro hrp HGR
        go_wp2_with fail
        exact ⟨⟨i + 1, sd, os.set d sm, by have := HIN.out; omega, rfl, by go_num, HST.out.2.1, by rw [List.length_set, HO.out], HTO.out.set _ _ HSM.out, hro2.set HDO.out (Nat.lt_trans HSM.out W32_lt), hrp2.far HGP.out _, grownBy_trans HGR2.out (only_set _ _ _), HFIN.out.1, HFIN.out.2.1, HFIN.out.2.2⟩, by simp [intOf]; have := HIN.out; omega⟩
      · have hinI : ¬ (i : Int) ≤ (n : Int) := by omega
        have HIE : Hid (i = n + 1) := Lib.hid (by have := HI.out; omega)
        clear hin
        go_wp2_with fail
        go_ret
        have hie := HIE.out
        subst hie
        refine ⟨by rw [decide_eq_true HLE.out]; rfl, os, hro, grownBy_trans (grownBy_of_below HBC.out _) HGR.out, fun _ => ⟨HO.out, HTO.out, HTK.out, HDR.out, ?_⟩, fun h => absurd HLE.out (by omega)⟩
        have hv := HV.out
        rw [List.take_of_length_le (l := ps) (by rw [HPL.out]; exact Nat.le_refl _), List.take_of_length_le (l := ws) (by rw [HWL.out]; exact Nat.le_refl _), HPV.out] at hv
        have ho : val32 ((os.drop p).take (n + 1)) < W32 ^ (n + 1) := by
          have h := val32_lt ((show Tiny (os.drop p) from fun y hy => HTO.out y (List.mem_of_mem_drop hy)).take (n + 1))
          rwa [List.length_take, List.length_drop, Nat.min_eq_left (by rw [HO.out]; have := HP.out; omega)] at h
        have h := sub_end hv HCR.out ho HLE.out
        rw [HWS.out, h]
        have := HLE.out
        omega
end Go.Proofs.YtjbagikfogejnaaGreatDoor
/- The package rosetteref00: long. -/
namespace Go.Proofs.YtjbagikfogejnaaGreatDoor
open Go.RowKit Go.Deep
theorem val32_nil : val32 [] = 0 := rfl
theorem alg32 (W : Nat) {M t win rest P D V q r : Nat} (hrest : rest = 0) (hM : M = t + P * (win + rest) + D * (P * W) * V) (hw : win = q * V + r) : M = t + P * (r + 0) + (q + W * D) * P * V := by
  subst hrest
  rw [hM, hw]; grind
theorem over_win32 {us : List Nat} (hs : Tiny us) {p lb V : Nat} (hp : p + (lb + 1) ≤ us.length) (hVl : V < W32 ^ lb) (hlt : val32 (us.drop (p + 1)) < V) :
    val32 ((us.drop p).take (lb + 1)) < V * W32 ∧ val32 (us.drop (p + (lb + 1))) = 0 := by
  have h1 := val32_drop_step us p (by omega)
  have h2 : us.getD p 0 < W32 := hs.getD p
  have h3 := val32_split (us.drop p) (lb + 1) (by rw [List.length_drop]; omega)
  rw [List.drop_drop] at h3
  have h4 := val32_split (us.drop (p + 1)) lb (by rw [List.length_drop]; omega)
  rw [List.drop_drop] at h4
  have h5 : W32 * val32 (us.drop (p + 1)) + W32 ≤ W32 * V := by
    have := Nat.mul_le_mul_left W32 (show val32 (us.drop (p + 1)) + 1 ≤ V from hlt)
    rwa [Nat.mul_add, Nat.mul_one] at this
  rw [Nat.mul_comm V]
  refine ⟨by omega, ?_⟩
  rw [show p + 1 + lb = p + (lb + 1) by omega] at h4
  rcases Nat.eq_zero_or_pos (val32 (us.drop (p + (lb + 1)))) with h6 | h6
  · exact h6
  · have := Nat.mul_le_mul_left (W32 ^ lb) h6
    omega
theorem over_step32 {us us' os : List Nat} (hs : Tiny us) {p lb V M q : Nat} (hlen : us'.length = us.length) (hp : p + (lb + 1) ≤ us.length) (hV0 : 0 < V) (hVl : V < W32 ^ lb) (hlt : val32 (us.drop (p + 1)) < V)
    (hM : M = val32 us + val32 (os.drop (p + 1)) * W32 ^ (p + 1) * V) (hq : q = val32 ((us.drop p).take (lb + 1)) / V) (htk : us'.take p = us.take p) (hdr : us'.drop (p + (lb + 1)) = us.drop (p + (lb + 1)))
    (hr : val32 ((us'.drop p).take (lb + 1)) = val32 ((us.drop p).take (lb + 1)) % V) (hpo : p < os.length) :
    val32 (us'.drop p) < V ∧ M = val32 us' + val32 ((os.set p q).drop p) * W32 ^ p * V := by
  obtain ⟨_, h0⟩ := over_win32 hs hp hVl hlt
  have e1 := val32_split us p (by omega)
  have e2 := val32_split (us.drop p) (lb + 1) (by rw [List.length_drop]; omega)
  rw [List.drop_drop, h0] at e2
  have e3 := val32_split us' p (by omega)
  have e4 := val32_split (us'.drop p) (lb + 1) (by rw [List.length_drop]; omega)
  rw [List.drop_drop, hdr, h0, hr] at e4
  have h5 := Nat.div_add_mod (val32 ((us.drop p).take (lb + 1))) V
  rw [← hq] at h5
  have h6 := Nat.mod_lt (val32 ((us.drop p).take (lb + 1))) hV0
  rw [Nat.mul_zero, Nat.add_zero] at e4
  refine ⟨by rw [e4]; exact h6, ?_⟩
  rw [e3, e4, htk, val32_drop_set os p q hpo]
  rw [e1, e2, Nat.pow_succ] at hM
  have h7 := alg32 W32 (Nat.mul_zero (W32 ^ (lb + 1))) hM (q := q) (r := val32 ((us.drop p).take (lb + 1)) % V) (by rw [Nat.mul_comm]; exact h5.symm)
  rwa [Nat.add_zero] at h7
theorem guess_ge32 {win vs : List Nat} (hw : Tiny win) {n : Nat} (hv : vs.length = n + 1) (hwl : win.length = n + 2) :
    (val32 win / val32 vs) * vs.getD n 0 ≤ win.getD n 0 + W32 * win.getD (n + 1) 0 := by
  have h1 := Nat.div_mul_le_self (val32 win) (val32 vs)
  generalize val32 win / val32 vs = Q at *
  have e1 : val32 win = val32 (win.take n) + W32 ^ n * (win.getD n 0 + W32 * win.getD (n + 1) 0) := by
    have h3 := val32_split win n (by omega)
    have h4 := val32_drop_step win n (by omega)
    have h5 := val32_drop_step win (n + 1) (by omega)
    rw [List.drop_of_length_le (i := n + 1 + 1) (by omega), val32_nil, Nat.mul_zero, Nat.add_zero] at h5
    rw [h3, h4, h5, Nat.add_zero]
  have e2 : val32 vs = val32 (vs.take n) + W32 ^ n * vs.getD n 0 := by
    have h3 := val32_take_step vs n
    rwa [List.take_of_length_le (by omega)] at h3
  have h6 := val32_lt (hw.take n)
  rw [List.length_take, Nat.min_eq_left (by omega)] at h6
  rw [e1, e2] at h1
  generalize win.getD n 0 + W32 * win.getD (n + 1) 0 = t at *
  generalize vs.getD n 0 = v at *
  generalize val32 (vs.take n) = a at *
  generalize val32 (win.take n) = b at *
  generalize W32 ^ n = P at *
  rcases Nat.lt_or_ge t (Q * v) with h | h
  · exfalso
    have h7 := Nat.mul_le_mul_left P (show t + 1 ≤ Q * v from h)
    have h8 : Q * (a + P * v) = Q * a + P * (Q * v) := by grind
    rw [Nat.mul_add, Nat.mul_one] at h7
    have : 0 ≤ Q * a := Nat.zero_le _
    omega
  · exact h
theorem below_of_grown {w a b : World} {g : Nat} (h : Below w.heap.size w a) (k : a.grownBy b (some g)) (hg : w.heap.size ≤ g) : Below w.heap.size w b :=
  ⟨k.os.trans h.os, k.tape.trans h.tape, k.output.trans h.output, Nat.le_trans h.size k.size, fun i hi => by
    rw [k.block i (Nat.lt_of_lt_of_le hi h.size) (fun e => by have := Option.some.inj e; omega)]
    exact h.block i hi⟩
theorem Row.grown {a b : World} {g r : Nat} {os : List Nat} (h : Row a r os) (k : a.grownBy b (some g)) (hr : r ≠ g) : Row b r os :=
  h.of_block (k.block r h.lt (fun e => hr (Option.some.inj e)))
/-- The scale's bounds. -/
theorem scale_facts {ys : List Nat} {n t S : Nat} (ty : Tiny ys) (hl : ys.length = n + 1) (ht : ys.getD n 0 = t) (ht0 : t ≠ 0) (hS : 4294967296 / (t + 1) = S) : 1 ≤ S ∧ S < W32 ∧ val32 ys * S < W32 ^ (n + 1) ∧ W32 ^ n * S ≤ val32 ys * S := by
  have htW : t < W32 := by rw [← ht]; exact ty.getD n
  rw [W32_eq] at htW
  have h1 : 1 ≤ S := by rw [← hS]; exact (Nat.le_div_iff_mul_le (by omega)).2 (by omega)
  have h2 : S * (t + 1) ≤ 4294967296 := by rw [← hS]; exact Nat.div_mul_le_self _ _
  have h3 : S < W32 := by
    rw [W32_eq]
    have h4 := Nat.mul_le_mul_left S (show 2 ≤ t + 1 by omega)
    omega
  have e : val32 ys = val32 (ys.take n) + W32 ^ n * t := by
    have h5 := val32_take_step ys n
    rwa [List.take_of_length_le (by omega), ht] at h5
  have h6 := val32_lt (ty.take n)
  rw [List.length_take, Nat.min_eq_left (by omega)] at h6
  have hSW : S * (t + 1) ≤ W32 := by rw [W32_eq]; exact h2
  refine ⟨h1, h3, ?_, ?_⟩
  · have h7 : val32 ys < W32 ^ n * (t + 1) := by rw [e, Nat.mul_add, Nat.mul_one]; omega
    have h8 := Nat.mul_lt_mul_of_pos_right h7 (show 0 < S by omega)
    rw [Nat.mul_assoc, Nat.mul_comm (t + 1) S] at h8
    rw [Nat.pow_succ]
    exact Nat.lt_of_lt_of_le h8 (Nat.mul_le_mul_left _ hSW)
  · refine Nat.mul_le_mul_right S ?_
    rw [e]
    have := Nat.le_mul_of_pos_right (W32 ^ n) (show 0 < t by omega)
    omega
/-- The first window lies below the divisor. -/
theorem first_window {us : List Nat} {k n S V X : Nat} (hX : val32 us = X * S) (hx : X < W32 ^ (k + n)) (hk : k ≤ us.length) (hV : W32 ^ n * S ≤ V) (hS : 1 ≤ S) : val32 (us.drop k) < V := by
  have h1 := val32_split us k hk
  have h2 := Nat.mul_lt_mul_of_pos_right hx (show 0 < S by omega)
  rw [Nat.pow_add, Nat.mul_assoc] at h2
  have h3 := Nat.mul_le_mul_left (W32 ^ k) hV
  have h4 : W32 ^ k * val32 (us.drop k) < W32 ^ k * V := by omega
  exact Nat.lt_of_mul_lt_mul_left h4
set_option maxHeartbeats 2000000 in
set_option maxRecDepth 100000 in
theorem ref_long (A1 A2 : Option Addr) (l1 l2 c1 c2 n : Nat) (xs ys : List Nat) (w : World) (h1 : Lim w w.heap.size A1 xs) (h2 : Lim w w.heap.size A2 ys) (tx : Tiny xs) (ty : Tiny ys) (e1 : l1 = xs.length) (e2 : l2 = ys.length) (hn : l2 = n + 1) (hle : l2 ≤ l1) (hl : l1 ≤ 274877906944) (htop : ys.getD n 0 ≠ 0) :
    Calls Tryz.prog 118 #[.slice A1 l1 c1, .slice A2 l2 c2] w fun e w' => ∃ Aq lq cq zs Ar lr cr rs, e = .returned (.tuple #[.slice Aq lq cq, .slice Ar lr cr]) ∧ lq = zs.length ∧ lq ≤ cq ∧ zs.length ≤ l1 ∧ Lim w' w'.heap.size Aq zs ∧ Tiny zs ∧ val32 zs = val32 xs / val32 ys ∧ lr = rs.length ∧ lr ≤ cr ∧ rs.length ≤ l1 + 1 ∧ Lim w' w'.heap.size Ar rs ∧ Tiny rs ∧ val32 rs = val32 xs % val32 ys ∧ Below w.heap.size w w' := by
  have E1 := Lib.hid e1
  have E2 := Lib.hid e2
  have EN := Lib.hid hn
  have TX := Lib.hid tx
  have TY := Lib.hid ty
  have HLE := Lib.hid (And.intro hle hl)
  obtain ⟨t, ht⟩ : ∃ t, ys.getD n 0 = t := ⟨_, rfl⟩
  rw [ht] at htop
  obtain ⟨ad, rfl, _, hct⟩ := h2.at_ (k := n) (by omega)
  rw [ht] at hct
  have htW : t < W32 := by rw [← ht]; exact ty.getD n
  rw [W32_eq] at htW
  obtain ⟨t1, ht1⟩ : ∃ t1, t + 1 = t1 := ⟨_, rfl⟩
  obtain ⟨S, hS⟩ : ∃ S, 4294967296 / t1 = S := ⟨_, rfl⟩
  have HSF := Lib.hid (scale_facts (S := S) ty (by omega) ht htop (by rw [ht1]; exact hS))
  have ht1I : (t : Int) + 1 = (t1 : Int) := by omega
  have hSI : (4294967296 : Int) / (t1 : Int) = (S : Int) := by rw [← hS]; simp
  have ht10 : ¬ (t1 : Int) = 0 := by omega
  have ht10b : ((t1 : Int) == 0) = false := beq_eq_false_iff_ne.2 ht10
  have ht10n : ¬ t1 = 0 := by omega
  have wt1 : IntKind.u64.wrap (t1 : Int) = (t1 : Int) := wrap64_in (by rw [W64_eq]; omega)
  have wS : IntKind.u64.wrap (S : Int) = (S : Int) := wrap64_in (Nat.lt_trans HSF.out.2.1 W32_lt)
  have hl1I : (l1 : Int) ≤ 274877906944 := by omega
  have hl2I : (l2 : Int) ≤ (l1 : Int) := by omega
  have hnI : (l2 : Int) - 1 = (n : Int) := by omega
  have hnl : (n : Int) < (l2 : Int) := by omega
  obtain ⟨m, hm⟩ : ∃ m, l1 - l2 + 1 = m := ⟨_, rfl⟩
  have hmI : (l1 : Int) - (l2 : Int) + 1 = (m : Int) := by omega
  have HM := Lib.hid hm
  have hmk := make_limbs m (by omega)
  clear e1 e2 hn tx ty hle hl ht htop htW ht1 hS hm
  go_enter Tryz.func118, Tryz.ntmps118
  go_wp2_with fail
  have HSI := Lib.hid hSI
  have kt := ref_times A1 l1 c1 S (l1 + 1) xs w h1 (Nat.le_refl _) TX.out E1.out HSF.out.2.1 (by have := HLE.out; omega)
  rw [show ((l1 + 1 : Nat) : Int) = (l1 : Int) + 1 by omega] at kt
  refine kt.mono ?_
  clear kt
  rintro e w1 ⟨us, cy, rfl, hul, hurow, hut, huv, hb1⟩
  have HUV := Lib.hid (show val32 us = val32 xs * S by
    rw [List.take_of_length_le (by have := E1.out; omega)] at huv
    have h1 : val32 xs * S < W32 ^ (l1 + 1) := by
      have h := val32_lt TX.out
      rw [← E1.out] at h
      rw [Nat.pow_succ]
      exact Nat.mul_lt_mul'' h HSF.out.2.1
    rcases Nat.eq_zero_or_pos cy with h0 | h0
    · subst h0; omega
    · have h3 := Nat.le_mul_of_pos_left (W32 ^ (l1 + 1)) h0
      omega)
  have HUL := Lib.hid hul
  have HUT := Lib.hid hut
  have HB1 := Lib.hid hb1
  obtain ⟨gu, hgu⟩ : ∃ gu, w.heap.size = gu := ⟨_, rfl⟩
  have HGU := Lib.hid (show w.heap.size ≤ gu by omega)
  rw [hgu] at hurow ⊢
  have h21 := (h2.below hb1).more hb1.size
  clear huv hul hut hb1 hgu h1 hct h2 ht1I hSI ht10 ht10b ht10n wt1 wS
  go_wp2_with fail
  rw [HSI.out]
  have kt := ref_times (some ad) l2 c2 S l2 ys w1 h21 (Nat.le_refl _) TY.out E2.out HSF.out.2.1 (by have := HLE.out; omega)
  refine kt.mono ?_
  clear kt
  rintro e w2 ⟨vs, cy2, rfl, hvl, hvrow, hvt, hvv, hb2⟩
  have HVV := Lib.hid (show val32 vs = val32 ys * S by
    rw [List.take_of_length_le (by have := E2.out; omega)] at hvv
    have h1 := HSF.out.2.2.1
    rw [← EN.out] at h1
    rcases Nat.eq_zero_or_pos cy2 with h0 | h0
    · subst h0; omega
    · have h3 := Nat.le_mul_of_pos_left (W32 ^ l2) h0
      omega)
  have HVL := Lib.hid hvl
  have HVT := Lib.hid hvt
  have HB2 := Lib.hid (HB1.out.trans (hb2.mono HB1.out.size))
  obtain ⟨gv, hgv⟩ : ∃ gv, w1.heap.size = gv := ⟨_, rfl⟩
  have HGV := Lib.hid (show w.heap.size ≤ gv ∧ gu < gv from by have := hurow.lt; have := HB1.out.size; omega)
  rw [hgv] at hvrow ⊢
  have hurow2 := hurow.call hb2
  clear hvv hvl hvt hb2 hgv hurow h21
  go_upto_region 5 with (fail)
  obtain ⟨go_, hgo⟩ : ∃ go_, w2.heap.size = go_ := ⟨_, rfl⟩
  have HGO := Lib.hid (show w.heap.size ≤ go_ ∧ gu < go_ ∧ gv < go_ from by have := hvrow.lt; have := hurow2.lt; have := HB2.out.size; omega)
  have hur := hurow2.alloc (.cells (madeCells #[.int .u64 0] m) 41)
  have hvr := hvrow.alloc (.cells (madeCells #[.int .u64 0] m) 41)
  have hor := Row.made w2 m (t := 41)
  have HB3 := Lib.hid (HB2.out.alloc HB2.out.size (.cells (madeCells #[.int .u64 0] m) 41))
  rw [hgo] at hor ⊢
  clear hurow2 hvrow hgo hmk
  generalize w2.alloc (.cells (madeCells #[.int .u64 0] m) 41) = W3 at hur hvr hor HB3 ⊢
  go_wp2_with fail
  obtain ⟨V, hV⟩ : ∃ V, val32 vs = V := ⟨_, rfl⟩
  have HV := Lib.hid hV
  have HVL2 := Lib.hid (show V < W32 ^ (n + 1) ∧ 0 < V ∧ W32 ^ n * S ≤ V from by
    have h1 := HSF.out.2.2.1
    have h2 := HSF.out.2.2.2
    rw [← HVV.out, hV] at h1 h2
    refine ⟨h1, ?_, h2⟩
    have h3 := Nat.mul_pos (Nat.pow_pos (n := n) W32_pos) (show 0 < S from HSF.out.1)
    omega)
  have HFW := Lib.hid (show val32 (us.drop m) < V from first_window HUV.out (n := n) (by
    have h := val32_lt TX.out
    rwa [← E1.out, show l1 = m + n by have := HM.out; have := EN.out; have := HLE.out; omega] at h) (by rw [HUL.out]; have := HM.out; have := EN.out; omega) HVL2.out.2.2 HSF.out.1)
  clear hV hmI
  go_loopw [10] (fun t10 wr => ∃ (k : Nat) (us' os : List Nat), k ≤ m ∧ t10 = .int .i64 ((k : Int) - 1) ∧ Row wr gu us' ∧ Row wr gv vs ∧ Row wr go_ os ∧ us'.length = l1 + 1 ∧ Tiny us' ∧ os.length = m ∧ Tiny os ∧ val32 (us'.drop k) < V ∧ val32 us = val32 us' + val32 (os.drop k) * W32 ^ k * V ∧ Below w.heap.size w wr) (fun t10 _ => (intOf t10 + 1).toNat)
  case atStart =>
    exact ⟨m, us, List.replicate m 0, Nat.le_refl _, by have := HM.out; have := HLE.out; congr 1; omega, hur, hvr, hor, HUL.out, HUT.out, by simp, Tiny.zeros m, HFW.out, by rw [List.drop_of_length_le (by simp), val32_nil]; simp, HB3.out⟩
  case round =>
    clear hur hvr hor
    obtain ⟨k, us', os, hk, rfl, hur, hvr, hor, hul, hut, hol, hot, hlt, hval, hb⟩ := hrel
    have HK := Lib.hid hk
    have HUL2 := Lib.hid hul
    have HUT2 := Lib.hid hut
    have HOL := Lib.hid hol
    have HOT := Lib.hid hot
    have HLT := Lib.hid hlt
    have HVAL := Lib.hid hval
    have HB := Lib.hid hb
    clear hk hul hut hol hot hlt hval hb
    rcases k with _ | p
    · have HQR := Lib.hid (show val32 os = val32 xs / val32 ys ∧ val32 us' = (val32 xs % val32 ys) * S from by
        have h := HVAL.out
        have h2 := HLT.out
        rw [List.drop_zero] at h h2
        rw [Nat.pow_zero, Nat.mul_one, HUV.out] at h
        have hS0 : 0 < S := HSF.out.1
        have hd : val32 xs * S / V = val32 os := by
          rw [h, Nat.add_mul_div_right _ _ HVL2.out.2.1, Nat.div_eq_of_lt h2, Nat.zero_add]
        have hm : val32 xs * S % V = val32 us' := by
          rw [h, Nat.add_mul_mod_self_right, Nat.mod_eq_of_lt h2]
        rw [← HV.out, HVV.out] at hd hm
        rw [Nat.mul_div_mul_right _ _ hS0] at hd
        rw [Nat.mul_mod_mul_right] at hm
        exact ⟨hd.symm, hm.symm⟩)
      have hlimu := hur.lim (B := wr.heap.size) hur.lt
      have HTU := Lib.hid (length_trimL_le us')
      have HTO := Lib.hid (length_trimL_le os)
      have HOR := Lib.hid hor
      clear hvr hor
      go_wp2_with fail
      refine (ref_low (some ⟨gu, 0, none⟩) (l1 + 1) (l1 + 1) us' wr hlimu HUL2.out.symm (Nat.le_refl _) (by have := HLE.out; omega)).mono ?_
      rintro e w5 ⟨rfl, rfl⟩
      have h5 := hlimu.take (trimL us').length
      rw [← trimL_prefix] at h5
      clear hlimu hur
      go_wp2_with fail
      refine (ref_short (some ⟨gu, 0, none⟩) (trimL us').length (l1 + 1) S (trimL us') wr h5 HUT2.out.trim rfl (by have := HTU.out; have := HUL2.out; have := HLE.out; omega) HSF.out.1 HSF.out.2.1).mono ?_
      rintro e w6 ⟨Ar, lr, cr, rs, rfl, hrl, hrc, hrl2, hrlim, hrt, -, hrv, hb6⟩
      have HRS := Lib.hid (And.intro hrl (And.intro hrc (And.intro hrl2 (And.intro hrlim (And.intro hrt hrv)))))
      have hor6 := HOR.out.call hb6
      have HB6 := Lib.hid (HB.out.trans (hb6.mono HB.out.size))
      clear hrl hrc hrl2 hrlim hrt hrv hb6 h5
      have hlimo := hor6.lim (B := w6.heap.size) hor6.lt
      go_wp2_with fail
      refine (ref_low (some ⟨go_, 0, none⟩) m m os w6 hlimo HOL.out.symm (Nat.le_refl _) (by have := HM.out; have := HLE.out; omega)).mono ?_
      rintro e w7 ⟨rfl, rfl⟩
      go_wp2_with fail
      go_ret2
      have h7 := hlimo.take (trimL os).length
      rw [← trimL_prefix] at h7
      refine ⟨some ⟨go_, 0, none⟩, (trimL os).length, m, trimL os, Ar, lr, cr, rs, rfl, rfl, by have := HTO.out; have := HOL.out; omega, by have := HTO.out; have := HOL.out; have := HM.out; have := EN.out; have := HLE.out; omega, h7, HOT.out.trim, by rw [val32_trim]; exact HQR.out.1, HRS.out.1, HRS.out.2.1, ?_, HRS.out.2.2.2.1, HRS.out.2.2.2.2.1, ?_, HB6.out⟩
      · have := HRS.out.2.2.1
        have := HTU.out
        have := HUL2.out
        omega
      · rw [HRS.out.2.2.2.2.2, val32_trim, HQR.out.2, Nat.mul_div_cancel _ (show 0 < S from HSF.out.1)]
    · have e1 : ((p + 1 : Nat) : Int) - 1 = (p : Int) := by omega
      have hp0 : (0 : Int) ≤ (p : Int) := by omega
      rw [e1]
      have HP := Lib.hid (show p + (n + 1) ≤ us'.length by rw [HUL2.out]; have := HM.out; have := EN.out; have := HLE.out; have := HK.out; omega)
      have hpI : (p : Int) + (l2 : Int) < (l1 : Int) + 1 := by have := HM.out; have := HLE.out; have := HK.out; omega
      obtain ⟨d, hd⟩ : ∃ d, p + l2 = d := ⟨_, rfl⟩
      have hdI : (p : Int) + (l2 : Int) = (d : Int) := by omega
      obtain ⟨d1, hd1⟩ : ∃ d1, p + n = d1 := ⟨_, rfl⟩
      have hd1I : (d : Int) - 1 = (d1 : Int) := by omega
      have hdl : (d : Int) < (l1 : Int) + 1 := by omega
      have hd1l : (d1 : Int) < (l1 : Int) + 1 := by omega
      obtain ⟨hi, hhi⟩ : ∃ hi, us'.getD d 0 = hi := ⟨_, rfl⟩
      obtain ⟨lo, hlo⟩ : ∃ lo, us'.getD d1 0 = lo := ⟨_, rfl⟩
      obtain ⟨vt, hvt⟩ : ∃ vt, vs.getD n 0 = vt := ⟨_, rfl⟩
      have hci := hur.cell (k := d) (by rw [HUL2.out]; omega)
      have hcl := hur.cell (k := d1) (by rw [HUL2.out]; omega)
      have hcv := hvr.cell (k := n) (by rw [HVL.out, EN.out]; omega)
      rw [hhi] at hci
      rw [hlo] at hcl
      rw [hvt] at hcv
      have HHI := Lib.hid (show hi < W32 ∧ lo < W32 ∧ vt < W32 from ⟨by rw [← hhi]; exact HUT2.out.getD d, by rw [← hlo]; exact HUT2.out.getD d1, by rw [← hvt]; exact HVT.out.getD n⟩)
      obtain ⟨h32, hh32⟩ : ∃ h32, hi * 4294967296 = h32 := ⟨_, rfl⟩
      obtain ⟨top, htop⟩ : ∃ top, h32 + lo = top := ⟨_, rfl⟩
      have HTW := Lib.hid (show top < W64 ∧ h32 < W64 by have h := HHI.out; rw [W32_eq] at h; rw [W64_eq]; omega)
      have hh32I : (hi : Int) * 4294967296 = (h32 : Int) := by omega
      have htopI : (h32 : Int) + (lo : Int) = (top : Int) := by omega
      have wh : IntKind.u64.wrap (h32 : Int) = (h32 : Int) := wrap64_in HTW.out.2
      have wtp : IntKind.u64.wrap (top : Int) = (top : Int) := wrap64_in HTW.out.1
      have HTOP := Lib.hid (show lo + W32 * hi = top by rw [W32_eq]; omega)
      have HDD := Lib.hid (show us'.getD (p + n) 0 = lo ∧ us'.getD (p + (n + 1)) 0 = hi ∧ vs.getD n 0 = vt from ⟨by rw [hd1, hlo], by rw [show p + (n + 1) = d by have := EN.out; omega, hhi], hvt⟩)
      clear hhi hlo hvt hh32 htop hd hd1 e1
      go_wp2_with fail
      go_quiet (fail)
      have hur2 := hur.drewN nq
      have hvr2 := hvr.drewN nq
      have hor2 := hor.drewN nq
      have HB2' := Lib.hid (below_drewN HB.out nq)
      have hcv2 : (wr.drewN nq).cell? ⟨gv, n, none⟩ = some (.int .u64 (vt : Int)) := hcv
      generalize wr.drewN nq = wq at hur2 hvr2 hor2 HB2' hcv2 ⊢
      have HVT0 := Lib.hid (show 1 ≤ vt from by
        have h1 := val32_take_step vs n
        rw [List.take_of_length_le (by rw [HVL.out, EN.out]; exact Nat.le_refl _), HV.out, HDD.out.2.2] at h1
        have h2 := val32_lt (HVT.out.take n)
        rw [List.length_take, Nat.min_eq_left (by rw [HVL.out, EN.out]; omega)] at h2
        have h3 := HVL2.out.2.2
        have h4 := Nat.le_mul_of_pos_right (W32 ^ n) (show 0 < S from HSF.out.1)
        rcases Nat.eq_zero_or_pos vt with h0 | h0
        · subst h0
          rw [Nat.mul_zero] at h1
          omega
        · exact h0)
      have hvt0 : ¬ (vt : Int) = 0 := by have := HVT0.out; omega
      have hvt0b : ((vt : Int) == 0) = false := beq_eq_false_iff_ne.2 hvt0
      have hvt0n : ¬ vt = 0 := by have := HVT0.out; omega
      obtain ⟨qt, hqt⟩ : ∃ qt, top / vt = qt := ⟨_, rfl⟩
      have hqtI : (top : Int) / (vt : Int) = (qt : Int) := by rw [← hqt]; simp
      have wqt : IntKind.u64.wrap (qt : Int) = (qt : Int) := wrap64_in (by rw [← hqt]; exact Nat.lt_of_le_of_lt (Nat.div_le_self _ _) HTW.out.1)
      have HQT := Lib.hid hqt
      clear hci hcl hcv hur hvr hor HB hh32I htopI wh wtp hqt
      go_wp2_with fail
      obtain ⟨q0, hq0⟩ : ∃ q0, min qt 4294967295 = q0 := ⟨_, rfl⟩
      have hq0I : min (qt : Int) 4294967295 = (q0 : Int) := by omega
      have HQ0 := Lib.hid (show q0 < W32 by rw [W32_eq]; omega)
      obtain ⟨win, hwin⟩ : ∃ win, (us'.drop p).take (n + 1 + 1) = win := ⟨_, rfl⟩
      have HWIN := Lib.hid hwin
      have HOW := Lib.hid (over_win32 HUT2.out (p := p) (lb := n + 1) (by rw [HUL2.out]; have := HM.out; have := EN.out; have := HLE.out; have := HK.out; omega) HVL2.out.1 HLT.out)
      have HQQ := Lib.hid (show val32 win / V ≤ q0 from by
        have hwl : win.length = n + 2 := by rw [← hwin, List.length_take, List.length_drop, HUL2.out]; have := HM.out; have := EN.out; have := HLE.out; have := HK.out; omega
        have hwt : Tiny win := by rw [← hwin]; exact (show Tiny (us'.drop p) from fun y hy => HUT2.out y (List.mem_of_mem_drop hy)).take _
        have h1 := guess_ge32 (vs := vs) hwt (n := n) (by rw [HVL.out, EN.out]) hwl
        have g0 : win.getD n 0 = lo := by rw [← hwin, win_get us' p (n + 1 + 1) n (by omega), HDD.out.1]
        have g1 : win.getD (n + 1) 0 = hi := by rw [← hwin, win_get us' p (n + 1 + 1) (n + 1) (by omega), HDD.out.2.1]
        rw [HV.out, HDD.out.2.2, g0, g1, HTOP.out] at h1
        have h2 : val32 win / V ≤ qt := by rw [← HQT.out]; exact (Nat.le_div_iff_mul_le HVT0.out).2 h1
        have h3 : val32 win / V < W32 := by
          have h4 := HOW.out.1
          rw [hwin] at h4
          exact Nat.div_lt_of_lt_mul h4
        rw [W32_eq] at h3
        omega)
      rw [hq0I]
      clear hq0 hq0I hwin hqtI wqt hvt0 hvt0b hvt0n hcv2
      go_loopw [12] (fun t12 wr => ∃ q : Nat, t12 = .int .u64 (q : Int) ∧ val32 win / V ≤ q ∧ q < W32 ∧ Row wr gu us' ∧ Row wr gv vs ∧ Row wr go_ os ∧ Below w.heap.size w wr) (fun t12 _ => (intOf t12).toNat)
      case atStart => exact ⟨q0, rfl, HQQ.out, HQ0.out, hur2, hvr2, hor2, HB2'.out⟩
      case round =>
        clear hur2 hvr2 hor2
        obtain ⟨q, rfl, hqge, hqw, hur, hvr, hor, hb⟩ := hrel
        have HQG := Lib.hid hqge
        have HQW := Lib.hid hqw
        have HBR := Lib.hid hb
        clear hqge hqw hb
        have e2 : (us'.drop p).take (l2 + 1) = win := by rw [EN.out]; exact HWIN.out
        have HE2 := Lib.hid e2
        have hlimv := hvr.lim (B := wr.heap.size) hvr.lt
        have kl := ref_less gu (l1 + 1) (l1 + 1) p l2 q us' (some ⟨gv, 0, none⟩) l2 vs wr hur HUL2.out.symm (by have h := HP.out; rw [EN.out]; have h3 := HUL2.out; have h4 := HM.out; have h5 := HK.out; have h6 := HLE.out; have h7 := EN.out; omega) HUT2.out hlimv HVT.out HVL.out.symm HQW.out (by rw [HUL2.out]; have := HLE.out; omega)
        rw [HV.out, e2] at kl
        clear e2 hlimv
        go_wp2_with fail
        refine kl.mono ?_
        clear kl
        rintro e w5 ⟨us2, rfl, hur5, hgr, htk, hno⟩
        have hvr5 := hvr.grown hgr (by have := HGV.out; omega)
        have hor5 := hor.grown hgr (by have := HGO.out; omega)
        have HB5 := Lib.hid (below_of_grown HBR.out hgr HGU.out)
        clear hur hvr hor hgr
        by_cases hfit : V * q ≤ val32 win
        · rw [decide_eq_true hfit]
          have HTK := Lib.hid (htk hfit)
          have HQE := Lib.hid (show q = val32 win / V from by
            have h1 : q ≤ val32 win / V := (Nat.le_div_iff_mul_le HVL2.out.2.1).2 (by rw [Nat.mul_comm]; exact hfit)
            have := HQG.out
            omega)
          clear hfit htk hno
          have HPO := Lib.hid (show p < os.length by rw [HOL.out]; have := HK.out; omega)
          have hpm : (p : Int) < (m : Int) := by have := HK.out; omega
          have hfo := hor5.free p
          have hco := hor5.cell (k := p) HPO.out
          have HTH := HTK.out.is
          go_wp2_with fail
          have HSTP := over_step32 (us := us') (us' := us2) (os := os) (q := q) HUT2.out HTK.out.len (p := p) (lb := n + 1) (by rw [HUL2.out]; have := HM.out; have := EN.out; have := HLE.out; have := HK.out; omega) HVL2.out.2.1 HVL2.out.1 HLT.out HVAL.out (by rw [HWIN.out]; exact HQE.out) HTK.out.low (by have h := HTK.out.high; rwa [EN.out] at h) (by
            have h := HTK.out.is
            rw [HE2.out, EN.out] at h
            rw [HWIN.out]
            have h2 := Nat.div_add_mod (val32 win) V
            rw [← HQE.out] at h2
            omega) HPO.out
          exact ⟨⟨p, us2, os.set p q, by have := HK.out; omega, rfl, hur5.far (by have := HGO.out; show gu ≠ go_; omega) _, hvr5.far (by have := HGO.out; show gv ≠ go_; omega) _, hor5.set HPO.out (Nat.lt_trans HQW.out W32_lt), by rw [HTK.out.len, HUL2.out], HTK.out.tiny, by rw [List.length_set, HOL.out], HOT.out.set _ _ HQW.out, HSTP.1, HSTP.2, HB5.out.setCell HGO.out.1 _⟩, by simp [intOf]⟩
        · rw [decide_eq_false hfit]
          have HEQ := Lib.hid (hno hfit)
          have HQ1 := Lib.hid (show val32 win / V + 1 ≤ q from by
            have h1 : ¬ q ≤ val32 win / V := fun h => hfit (by rw [Nat.mul_comm]; exact (Nat.le_div_iff_mul_le HVL2.out.2.1).1 h)
            omega)
          obtain ⟨q1, hq1⟩ : ∃ q1, q - 1 = q1 := ⟨_, rfl⟩
          have hq11 : 1 ≤ q := Nat.le_trans (Nat.le_add_left 1 _) HQ1.out
          have hq1I : (q : Int) - 1 = (q1 : Int) := by omega
          have wq1 : IntKind.u64.wrap (q1 : Int) = (q1 : Int) := wrap64_in (by have := HQW.out; have := W32_lt; omega)
          have HQQ1 := Lib.hid (show val32 win / V ≤ q1 ∧ q1 < W32 ∧ q1 < q from by have := HQ1.out; have := HQW.out; omega)
          clear hfit htk hno hq1 hq11
          go_wp2_with fail
          refine ⟨⟨q1, rfl, HQQ1.out.1, HQQ1.out.2.1, ?_, hvr5, hor5, HB5.out⟩, by simp [intOf]; have := HQQ1.out.2.2; omega⟩
          rw [← HEQ.out]
          exact hur5
end Go.Proofs.YtjbagikfogejnaaGreatDoor
/- The package rosetteref00: NatDiv, NatRoot. -/
namespace Go.Proofs.YtjbagikfogejnaaGreatDoor
open Go.RowKit Go.Deep
set_option maxHeartbeats 1000000 in
set_option maxRecDepth 100000 in
theorem nat_div (u v : Value) (a b : Nat) (w : World) (hu : NatAt w u a) (hv : NatAt w v b) (la : lc a ≤ 68719476736) (lb : lc b ≤ 68719476736) (hb : b ≠ 0) :
    Calls Tryz.prog 79 #[u, v] w fun e w' => ∃ q r, e = .returned (.tuple #[q, r]) ∧ NatAt w' q (a / b) ∧ NatAt w' r (a % b) ∧ Below w.heap.size w w' := by
  have HU := Lib.hid hu
  have HV := Lib.hid hv
  obtain ⟨A1, l1, c1, rfl, e1, hc1, h1⟩ := hu
  obtain ⟨A2, l2, c2, rfl, e2, hc2, h2⟩ := hv
  have H1 := Lib.hid (And.intro e1 (And.intro hc1 h1))
  have H2 := Lib.hid (And.intro e2 (And.intro hc2 h2))
  have LA := Lib.hid la
  have LB := Lib.hid lb
  have HB := Lib.hid hb
  clear e1 hc1 h1 e2 hc2 h2 la lb hb
  go_enter Tryz.func79, Tryz.ntmps79
  go_wp2_with fail
  refine (ref_halves A1 l1 c1 (limbs a) w H1.out.2.2 H1.out.1 (by have := H1.out.1; have := LA.out; unfold lc at this; omega)).mono ?_
  rintro e w1 ⟨x, rfl, hx, hb1⟩
  have HX1 := Lib.hid (hx.mono (Nat.zero_le _))
  have HB1 := Lib.hid hb1
  have H21 := Lib.hid ((H2.out.2.2.below hb1).more hb1.size)
  clear hx hb1
  go_wp2_with fail
  refine (ref_halves A2 l2 c2 (limbs b) w1 H21.out H2.out.1 (by have := H2.out.1; have := LB.out; unfold lc at this; omega)).mono ?_
  rintro e w2 ⟨y, rfl, hy, hb2⟩
  have hx2 := HX1.out.below hb2
  have HB2 := Lib.hid (HB1.out.trans (hb2.mono HB1.out.size))
  obtain ⟨Ax, cx, rfl, hcx, hlx, _⟩ := hx2.form
  obtain ⟨Ay, cy, rfl, hcy, hly, _⟩ := hy.form
  have hDX : Hid (Tiny (dig (limbs a)) ∧ Norm (dig (limbs a)) ∧ val32 (dig (limbs a)) = a ∧ (dig (limbs a)).length ≤ 2 * lc a) := Lib.hid ⟨tiny_dig (small_limbs a), norm_dig _, by rw [val32_dig, val_limbs], dig_length _⟩
  have hDY : Hid (Tiny (dig (limbs b)) ∧ Norm (dig (limbs b)) ∧ val32 (dig (limbs b)) = b ∧ (dig (limbs b)).length ≤ 2 * lc b) := Lib.hid ⟨tiny_dig (small_limbs b), norm_dig _, by rw [val32_dig, val_limbs], dig_length _⟩
  obtain ⟨xs, hxs⟩ : ∃ xs, dig (limbs a) = xs := ⟨_, rfl⟩
  obtain ⟨ys, hys⟩ : ∃ ys, dig (limbs b) = ys := ⟨_, rfl⟩
  rw [hxs] at hDX hlx hcx ⊢
  rw [hys] at hDY hly hcy ⊢
  have HLX := Lib.hid hlx
  have HLY := Lib.hid hly
  obtain ⟨lx, hlx'⟩ : ∃ lx, xs.length = lx := ⟨_, rfl⟩
  obtain ⟨ly, hly'⟩ : ∃ ly, ys.length = ly := ⟨_, rfl⟩
  rw [hlx'] at hcx ⊢
  rw [hly'] at hcy ⊢
  have HLEX := Lib.hid hlx'
  have HLEY := Lib.hid hly'
  have HCX := Lib.hid (And.intro hcx hcy)
  have HA2 := Lib.hid (HU.out.below HB2.out)
  clear hxs hys hx2 hy hlx hly hcx hcy hlx' hly' hb2 HX1 HB1 H21
  by_cases hlt : lx < ly
  · have hI : (lx : Int) < (ly : Int) := by omega
    have HAB := Lib.hid (show a < b from by
      refine Nat.lt_of_not_le fun hba => ?_
      have h1 := val32_lt hDX.out.1
      rw [hDX.out.2.2.1] at h1
      have h2 := norm_len hDY.out.2.1 (n := xs.length) (by rw [hDY.out.2.2.1]; omega)
      have := HLEX.out
      have := HLEY.out
      omega)
    clear hlt
    go_wp2_with fail
    refine (nat_trim HA2.out (by have := LA.out; omega)).mono ?_
    rintro e w3 ⟨r, rfl, hr, -, hb3⟩
    go_wp2_with fail
    go_ret2
    refine ⟨_, _, rfl, ?_, ?_, HB2.out.trans (hb3.mono HB2.out.size)⟩
    · rw [Nat.div_eq_of_lt HAB.out]; exact NatAt.nil _
    · rw [Nat.mod_eq_of_lt HAB.out]; exact hr
  · have hI : ¬ (lx : Int) < (ly : Int) := by omega
    by_cases h1 : ly = 1
    · have h1I : (ly : Int) = 1 := by omega
      obtain ⟨ad, rfl, _, hc0⟩ := HLY.out.at_ (k := 0) (by rw [HLEY.out]; omega)
      obtain ⟨y0, hy0⟩ : ∃ y0, ys.getD 0 0 = y0 := ⟨_, rfl⟩
      rw [hy0] at hc0
      have hc0' : w2.cell? ad = some (.int .u64 (y0 : Int)) := by simpa [Addr.add] using hc0
      have HY0 := Lib.hid (show y0 = b ∧ y0 < W32 from by
        have h2 := val32_take_step ys 0
        rw [List.take_of_length_le (by rw [HLEY.out]; omega), hDY.out.2.2.1, hy0] at h2
        refine ⟨by simpa [val32] using h2.symm, by rw [← hy0]; exact hDY.out.1.getD 0⟩)
      have HXL := Lib.hid (show lx ≤ 549755813888 from by have := hDX.out.2.2.2; have := HLEX.out; have := LA.out; omega)
      clear hlt h1 hy0
      go_wp2_with fail
      refine (ref_short Ax lx cx y0 xs w2 HLX.out hDX.out.1 HLEX.out.symm HXL.out (by have := HY0.out.1; have := HB.out; omega) HY0.out.2).mono ?_
      rintro e w3 ⟨Aq, lq, cq, zs, rfl, hzl, hzc, hzl2, hzlim, hzt, -, hzv, hb3⟩
      rw [hDX.out.2.2.1] at hzv ⊢
      have HZ := Lib.hid (And.intro hzl (And.intro hzc (And.intro hzl2 (And.intro hzlim (And.intro hzt hzv)))))
      have HB3 := Lib.hid (HB2.out.trans (hb3.mono HB2.out.size))
      obtain ⟨r0, hr0⟩ : ∃ r0, a % y0 = r0 := ⟨_, rfl⟩
      have HR0 := Lib.hid hr0
      rw [hr0]
      have HRW := Lib.hid (show r0 < W64 from by rw [← hr0]; exact Nat.lt_trans (Nat.mod_lt _ (by have := HY0.out.1; have := HB.out; omega)) (Nat.lt_trans HY0.out.2 W32_lt))
      clear hzl hzc hzl2 hzlim hzt hzv hb3 hr0
      go_wp2_with fail
      refine (ref_limbs Aq lq cq zs w3 HZ.out.2.2.2.1 HZ.out.2.2.2.2.1 HZ.out.1 (by have := HZ.out.1; have := HZ.out.2.2.1; have := HXL.out; omega)).mono ?_
      rintro e w4 ⟨q, rfl, hq, hb4⟩
      have HQ4 := Lib.hid (NatAt.of_own hq)
      have HB4 := Lib.hid (HB3.out.trans (hb4.mono HB3.out.size))
      clear hq hb4
      go_wp2_with fail
      refine (ref_of r0 w4 HRW.out).mono ?_
      rintro e w5 ⟨r, rfl, hr, hb5⟩
      have HQ5 := Lib.hid (HQ4.out.below hb5)
      have HR5 := Lib.hid (NatAt.of_own hr)
      have HB5 := Lib.hid (HB4.out.trans (hb5.mono HB4.out.size))
      clear hr hb5
      go_wp2_with fail
      go_ret2
      refine ⟨_, _, rfl, ?_, ?_, HB5.out⟩
      · have h := HQ5.out
        rwa [HZ.out.2.2.2.2.2, HY0.out.1] at h
      · have h := HR5.out
        rwa [← HR0.out, HY0.out.1] at h
    · have h1I : ¬ (ly : Int) = 1 := by omega
      have HLY0 := Lib.hid (show 1 ≤ ly from by
        rcases Nat.eq_zero_or_pos ly with h0 | h0
        · exfalso
          have h2 := List.eq_nil_of_length_eq_zero (show ys.length = 0 by rw [HLEY.out, h0])
          have h3 := hDY.out.2.2.1
          rw [h2] at h3
          exact HB.out h3.symm
        · exact h0)
      have HXL := Lib.hid (show lx ≤ 274877906944 from by have := hDX.out.2.2.2; have := HLEX.out; have := LA.out; omega)
      have HTOP := Lib.hid (show ys.getD (ly - 1) 0 ≠ 0 from by
        rcases hDY.out.2.1 with h0 | h0
        · exfalso
          have h3 := hDY.out.2.2.1
          rw [h0] at h3
          exact HB.out h3.symm
        · rwa [HLEY.out] at h0)
      have HGE := Lib.hid (show ly ≤ lx by omega)
      clear hlt h1
      go_wp2_with fail
      refine (ref_long Ax Ay lx ly cx cy (ly - 1) xs ys w2 HLX.out HLY.out hDX.out.1 hDY.out.1 HLEX.out.symm HLEY.out.symm (by have := HLY0.out; omega) HGE.out HXL.out HTOP.out).mono ?_
      rintro e w3 ⟨Aq, lq, cq, zs, Ar, lr, cr, rs, rfl, hzl, hzc, hzl2, hzlim, hzt, hzv, hrl, hrc, hrl2, hrlim, hrt, hrv, hb3⟩
      rw [hDX.out.2.2.1, hDY.out.2.2.1] at hzv hrv
      have HZ := Lib.hid (And.intro hzl (And.intro hzc (And.intro hzl2 (And.intro hzlim (And.intro hzt hzv)))))
      have HRR := Lib.hid (And.intro hrl (And.intro hrc (And.intro hrl2 (And.intro hrlim (And.intro hrt hrv)))))
      have HB3 := Lib.hid (HB2.out.trans (hb3.mono HB2.out.size))
      clear hzl hzc hzl2 hzlim hzt hzv hrl hrc hrl2 hrlim hrt hrv hb3
      go_wp2_with fail
      refine (ref_limbs Aq lq cq zs w3 HZ.out.2.2.2.1 HZ.out.2.2.2.2.1 HZ.out.1 (by have := HZ.out.1; have := HZ.out.2.2.1; have := HXL.out; omega)).mono ?_
      rintro e w4 ⟨q, rfl, hq, hb4⟩
      have HQ4 := Lib.hid (NatAt.of_own hq)
      have HB4 := Lib.hid (HB3.out.trans (hb4.mono HB3.out.size))
      have HRL := Lib.hid ((HRR.out.2.2.2.1.below hb4).more hb4.size)
      clear hq hb4
      go_wp2_with fail
      refine (ref_limbs Ar lr cr rs w4 HRL.out HRR.out.2.2.2.2.1 HRR.out.1 (by have := HRR.out.1; have := HRR.out.2.2.1; have := HXL.out; omega)).mono ?_
      rintro e w5 ⟨r, rfl, hr, hb5⟩
      have HQ5 := Lib.hid (HQ4.out.below hb5)
      have HR5 := Lib.hid (NatAt.of_own hr)
      have HB5 := Lib.hid (HB4.out.trans (hb5.mono HB4.out.size))
      clear hr hb5
      go_wp2_with fail
      go_ret2
      refine ⟨_, _, rfl, ?_, ?_, HB5.out⟩
      · have h := HQ5.out
        rwa [HZ.out.2.2.2.2.2] at h
      · have h := HR5.out
        rwa [HRR.out.2.2.2.2.2] at h
end Go.Proofs.YtjbagikfogejnaaGreatDoor
/- The package rosettekit: copies; the region 'q, r, e := f(CopyInt(a), CopyInt(b))'. -/
namespace Go.Proofs.YtjbagikfogejnaaGreatDoor
open Go.RowKit Go.Deep
/-- A variable's box, that holds a record once it is stored. -/
def BoxQ (st : Prop) (w : World) (base : Nat) (v : Value) (q : Raw) : Prop := ∃ (g : Nat) (b : Bool) (A : Option Addr) (l c : Nat), v = .pointer (some ⟨g, 0, none⟩) ∧ base ≤ g ∧ Box2 w g (.bool b) (.slice A l c) ∧ (st → RawV w (.agg #[.bool b, .slice A l c]) q)
theorem BoxQ.stay {st st' : Prop} {w w' : World} {base : Nat} {v : Value} {q : Raw} (h : BoxQ st w base v q) (hs : st' → st) (hb : Below w.heap.size w w') : BoxQ st' w' base v q := by
  obtain ⟨g, b, A, l, c, h1, h0, h2, h3⟩ := h
  exact ⟨g, b, A, l, c, h1, h0, h2.stay hb, fun e => (h3 (hs e)).stay hb⟩
theorem BoxQ.same {st st' : Prop} {w : World} {base : Nat} {v : Value} {q : Raw} (h : BoxQ st w base v q) (hs : st' → st) : BoxQ st' w base v q := by
  obtain ⟨g, b, A, l, c, h1, h0, h2, h3⟩ := h
  exact ⟨g, b, A, l, c, h1, h0, h2, fun e => h3 (hs e)⟩
theorem BoxQ.put {st st' : Prop} {w w' : World} {base k : Nat} {v : Value} {q : Raw} (h : BoxQ st w base v q) (hs : st' → st) (p : Put k w w') (hne : v ≠ .pointer (some ⟨k, 0, none⟩)) : BoxQ st' w' base v q := by
  obtain ⟨g, b, A, l, c, h1, h0, h2, h3⟩ := h
  exact ⟨g, b, A, l, c, h1, h0, h2.put p (fun e => hne (by rw [h1, e])), fun e => (h3 (hs e)).put p⟩
theorem BoxQ.new {st : Prop} {w : World} {base : Nat} {q : Raw} (hs : ¬ st) (hb : base ≤ w.heap.size) : BoxQ st (w.alloc (.cells #[.bool false, .slice none 0 0] 24)) base (.pointer (some ⟨w.heap.size, 0, none⟩)) q :=
  ⟨w.heap.size, false, none, 0, 0, rfl, hb, heap_alloc_new w _, fun e => absurd e hs⟩
theorem BoxQ.lt {st : Prop} {w : World} {base k : Nat} {q : Raw} (h : BoxQ st w base (.pointer (some ⟨k, 0, none⟩)) q) : k < w.heap.size := by
  obtain ⟨g, b, A, l, c, h1, h0, h2, h3⟩ := h
  injection h1 with h1
  injection h1 with h1
  injection h1 with h1
  subst h1
  exact h2.lt
theorem BoxQ.fresh {st : Prop} {w : World} {base : Nat} {v : Value} {q : Raw} (h : BoxQ st w base v q) : v ≠ .pointer (some ⟨w.heap.size, 0, none⟩) := by
  rintro rfl
  exact absurd h.lt (Nat.lt_irrefl _)
/-- What a call told: two records and an errno; a record, a bool and an errno; a record and an errno. -/
def Tup2 (w : World) (v : Value) (q r : Raw) (E : Int) : Prop := ∃ a b, v = .tuple #[a, b, .int .i64 E] ∧ RawV w a q ∧ RawV w b r
def Tup1b (w : World) (v : Value) (q : Raw) (ok : Bool) (E : Int) : Prop := ∃ a, v = .tuple #[a, .bool ok, .int .i64 E] ∧ RawV w a q
def Tup1 (w : World) (v : Value) (q : Raw) (E : Int) : Prop := ∃ a, v = .tuple #[a, .int .i64 E] ∧ RawV w a q
theorem Tup2.stay {w w' : World} {v : Value} {q r : Raw} {E : Int} (h : Tup2 w v q r E) (hb : Below w.heap.size w w') : Tup2 w' v q r E := by
  obtain ⟨a, b, h1, h2, h3⟩ := h; exact ⟨a, b, h1, h2.stay hb, h3.stay hb⟩
theorem Tup2.put {w w' : World} {g : Nat} {v : Value} {q r : Raw} {E : Int} (h : Tup2 w v q r E) (p : Put g w w') : Tup2 w' v q r E := by
  obtain ⟨a, b, h1, h2, h3⟩ := h; exact ⟨a, b, h1, h2.put p, h3.put p⟩
theorem Tup1b.stay {w w' : World} {v : Value} {q : Raw} {ok : Bool} {E : Int} (h : Tup1b w v q ok E) (hb : Below w.heap.size w w') : Tup1b w' v q ok E := by
  obtain ⟨a, h1, h2⟩ := h; exact ⟨a, h1, h2.stay hb⟩
theorem Tup1b.put {w w' : World} {g : Nat} {v : Value} {q : Raw} {ok : Bool} {E : Int} (h : Tup1b w v q ok E) (p : Put g w w') : Tup1b w' v q ok E := by
  obtain ⟨a, h1, h2⟩ := h; exact ⟨a, h1, h2.put p⟩
theorem Tup1.stay {w w' : World} {v : Value} {q : Raw} {E : Int} (h : Tup1 w v q E) (hb : Below w.heap.size w w') : Tup1 w' v q E := by
  obtain ⟨a, h1, h2⟩ := h; exact ⟨a, h1, h2.stay hb⟩
theorem Tup1.put {w w' : World} {g : Nat} {v : Value} {q : Raw} {E : Int} (h : Tup1 w v q E) (p : Put g w w') : Tup1 w' v q E := by
  obtain ⟨a, h1, h2⟩ := h; exact ⟨a, h1, h2.put p⟩
end Go.Proofs.YtjbagikfogejnaaGreatDoor
/- Contracts of the abstract machine: rosettekit. -/
namespace Go.Proofs.YtjbagikfogejnaaGreatDoor
open Go.RowKit Go.Deep
/-- A number's limbs. -/
abbrev aN (n : Nat) : AR := .val (.one (.st (magP (limbs n))))
abbrev vN (n : Nat) : AV := .one (.st (magP (limbs n)))
theorem cm1 {f : FuncId} {fn : Func} {c : Code} {m : Nat} {res : AR} (hf : Tryz.prog.funcs[f]? = some fn) (hname : (fn.name == "runtime.NumGoroutine") = false) (hb : fn.body = some c) (hn : res.nop = true)
    (h : ∀ (w : World) (u : Value), NatAt w u m → Calls Tryz.prog f #[u] w fun e w' => ∃ v, e = .returned v ∧ (∀ G β, res.ok G β w' v) ∧ Below w.heap.size w w') : Ct Tryz.prog f [aN m] res where
  enters := fun vals w => enters_of hf hname hb vals w
  nop := hn
  calls := by
    intro G β w vals _ ha
    rcases vals with _ | ⟨u, _ | ⟨v, vs⟩⟩
    · exact ha.elim
    · refine (h w u ha.1).mono ?_
      rintro e w' ⟨v, rfl, h1, h2⟩
      exact ⟨v, rfl, h1 G β, h2⟩
    · exact ha.2.elim
theorem cm2 {f : FuncId} {fn : Func} {c : Code} {m n : Nat} {res : AR} (hf : Tryz.prog.funcs[f]? = some fn) (hname : (fn.name == "runtime.NumGoroutine") = false) (hb : fn.body = some c) (hn : res.nop = true)
    (h : ∀ (w : World) (u v : Value), NatAt w u m → NatAt w v n → Calls Tryz.prog f #[u, v] w fun e w' => ∃ r, e = .returned r ∧ (∀ G β, res.ok G β w' r) ∧ Below w.heap.size w w') : Ct Tryz.prog f [aN m, aN n] res where
  enters := fun vals w => enters_of hf hname hb vals w
  nop := hn
  calls := by
    intro G β w vals _ ha
    rcases vals with _ | ⟨u, _ | ⟨v, _ | ⟨t, vs⟩⟩⟩
    · exact ha.elim
    · exact ha.2.elim
    · refine (h w u v ha.1 ha.2.1).mono ?_
      rintro e w' ⟨r, rfl, h1, h2⟩
      exact ⟨r, rfl, h1 G β, h2⟩
    · exact ha.2.2.elim
theorem ct_NatMul (m n : Nat) (hm : lc m ≤ 137438953472) (hn : lc n ≤ 137438953472) : Ct Tryz.prog 77 [aN m, aN n] (aN (m * n)) :=
  cm2 Tryz.func77 rfl rfl rfl fun w u v h k => (nat_mul h k hm hn).mono (by rintro e w' ⟨r, rfl, h1, _, hb⟩; exact ⟨r, rfl, fun _ _ => h1, hb⟩)
theorem ct_NatAdd (m n : Nat) (hm : lc m ≤ 137438953472) (hn : lc n ≤ 137438953472) : Ct Tryz.prog 103 [aN m, aN n] (aN (m + n)) :=
  cm2 Tryz.func103 rfl rfl rfl fun w u v h k => (nat_add h k hm hn).mono (by rintro e w' ⟨r, rfl, h1, _, hb⟩; exact ⟨r, rfl, fun _ _ => h1, hb⟩)
theorem ct_NatSub (m n : Nat) (hm : lc m ≤ 137438953472) (hn : lc n ≤ 137438953472) (h0 : n ≤ m) : Ct Tryz.prog 101 [aN m, aN n] (aN (m - n)) :=
  cm2 Tryz.func101 rfl rfl rfl fun w u v h k => (nat_sub h k hm hn h0).mono (by rintro e w' ⟨r, rfl, h1, _, hb⟩; exact ⟨r, rfl, fun _ _ => h1, hb⟩)
theorem ct_NatCmp (m n : Nat) (hm : lc m ≤ 1099511627776) (hn : lc n ≤ 1099511627776) : Ct Tryz.prog 68 [aN m, aN n] (.val (aI (cmpN m n))) :=
  cm2 Tryz.func68 rfl rfl rfl fun w u v h k => (nat_cmp h k hm hn).mono (by rintro e w' ⟨rfl, hb⟩; exact ⟨_, rfl, fun _ _ => rfl, hb⟩)
theorem ct_NatTrim (m : Nat) (hm : lc m ≤ 1099511627776) : Ct Tryz.prog 65 [aN m] (aN m) :=
  cm1 Tryz.func65 rfl rfl rfl fun w u h => (nat_trim h hm).mono (by rintro e w' ⟨r, rfl, h1, _, hb⟩; exact ⟨r, rfl, fun _ _ => h1, hb⟩)
theorem ct_NatBits (m : Nat) (hm : lc m ≤ 1099511627776) : Ct Tryz.prog 78 [aN m] (.val (aI (nbits m : Nat))) :=
  cm1 Tryz.func78 rfl rfl rfl fun w u h => (nat_bits h hm).mono (by rintro e w' ⟨rfl, hb⟩; exact ⟨_, rfl, fun _ _ => rfl, hb⟩)
theorem ct_NatDiv (m n : Nat) (hm : lc m ≤ 68719476736) (hn : lc n ≤ 68719476736) (h0 : n ≠ 0) : Ct Tryz.prog 79 [aN m, aN n] (.tup [vN (m / n), vN (m % n)]) :=
  cm2 Tryz.func79 rfl rfl rfl fun w u v h k => (nat_div u v m n w h k hm hn h0).mono (by rintro e w' ⟨q, r, rfl, h1, h2, hb⟩; exact ⟨_, rfl, fun _ _ => tup_ok (vs := [_, _]) ⟨h1, h2, trivial⟩, hb⟩)
theorem ct_Same (x y : Raw) (hl : x.2.length ≤ 1099511627776) : Ct Tryz.prog 34 [aNum x, aNum y] (.val (aB (decide (x = y)))) :=
  ct2 Tryz.func34 rfl rfl rfl fun w u v h k => (kit_raw u v x y w h k hl).mono (by rintro e w' ⟨rfl, hb⟩; exact ⟨_, rfl, fun _ _ => rfl, hb⟩)
theorem ct_SameT (x : Raw) (hl : x.2.length ≤ 1099511627776) : Ct Tryz.prog 34 [aNum x, aNum x] (.val (aB true)) := by
  have := ct_Same x x hl
  rwa [decide_eq_true rfl] at this
/-- Lent limbs: behind them stand the marks. -/
def lentP (L : List Nat) : Pred where
  is := fun _ w v => ∃ A l c, v = .slice A l c ∧ l = L.length ∧ l + 12 ≤ c ∧ Lim w w.heap.size A (L ++ marks 12)
  cell := by
    rintro G w v ⟨A, l, c, rfl, _⟩
    exact ⟨noLimb_slice _ _ _, rfl⟩
  stay := by
    rintro G w w' v ⟨A, l, c, rfl, hl, hc, hlim⟩ m
    obtain ⟨H, _, e⟩ := m.ext
    exact ⟨A, l, c, rfl, hl, hc, (hlim.ext (Nat.le_refl _) e).more e.size⟩
  grow := by
    rintro G G' w v h _
    exact h
abbrev aLent (x : Raw) : AR := .val (.agg [.b x.1, .st (lentP x.2)])
end Go.Proofs.YtjbagikfogejnaaGreatDoor
/- Whole numbers of rosettekit, by the abstract machine. -/
namespace Go.Proofs.YtjbagikfogejnaaGreatDoor
open Go.RowKit Go.Deep
theorem ty_mag : TyI Tryz.prog 22 1 false := tyI_one Tryz.underlying22 rfl (by kernel_rfl)
theorem lc_natsum {x y k : Nat} (hx : lc x ≤ k) (hy : lc y ≤ k) : lc (x + y) ≤ k + 1 := by have := lc_add x y; omega
end Go.Proofs.YtjbagikfogejnaaGreatDoor
/- The package gcd, by the abstract machine: Join. -/
namespace Go.Proofs.YtjbagikfogejnaaGreatDoor
open Go.RowKit Go.Deep
/-- What Join reckons, the lesser modulus first. -/
def jX (r m s n : Int) : Int := (bzX (n.tdiv (gcdZ m n)) (m.tdiv (gcdZ m n)) * ((r % m - s % n).tdiv (gcdZ m n) % m.tdiv (gcdZ m n)) % m.tdiv (gcdZ m n)) * n + s % n
def joinX (r m s n : Int) : Int := if n < m then jX s n r m else jX r m s n
def joins (r m s n : Int) : Prop := (r % m - s % n).tmod (gcdZ m n) = 0
instance (r m s n : Int) : Decidable (joins r m s n) := by unfold joins; infer_instance
/-- What stands behind the turning about. -/
structure JS (r m s n r1 m1 s1 n1 : Int) : Prop where
  hr : lc r1.natAbs ≤ 90
  hm : lc m1.natAbs ≤ 90
  hs : lc s1.natAbs ≤ 90
  hn : lc n1.natAbs ≤ 90
  m0 : 0 < m1
  n0 : 0 < n1
  j : joins r1 m1 s1 n1 ↔ joins r m s n
  x : jX r1 m1 s1 n1 = joinX r m s n
  l : lcmZ m1 n1 = lcmZ m n
theorem bzX_size {a b : Int} (h : b ≠ 0) : (bzX a b).natAbs ≤ b.natAbs := by
  unfold bzX
  rw [if_neg h]
  have h1 := bM_pos (a := a) h
  have h2 := Int.emod_nonneg (eX a b) (show bM a b ≠ 0 by omega)
  have h3 := Int.emod_lt_of_pos (eX a b) h1
  have h4 := bM_le a b
  omega
theorem lc_sub {x y : Int} {k : Nat} (hx : lc x.natAbs ≤ k) (hy : lc y.natAbs ≤ k) : lc (x - y).natAbs ≤ k + 1 := by
  have h1 : (x - y).natAbs ≤ x.natAbs + y.natAbs := by omega
  have h2 := lc_mono h1
  have h3 := lc_add x.natAbs y.natAbs
  omega
theorem lc_plus {x y : Int} {k : Nat} (hx : lc x.natAbs ≤ k) (hy : lc y.natAbs ≤ k) : lc (x + y).natAbs ≤ k + 1 := by
  have h1 : (x + y).natAbs ≤ x.natAbs + y.natAbs := by omega
  have h2 := lc_mono h1
  have h3 := lc_add x.natAbs y.natAbs
  omega
theorem lc_times {x y : Int} {j k : Nat} (hx : lc x.natAbs ≤ j) (hy : lc y.natAbs ≤ k) : lc (x * y).natAbs ≤ j + k := by
  rw [Int.natAbs_mul]; have := lc_mul x.natAbs y.natAbs; omega
end Go.Proofs.YtjbagikfogejnaaGreatDoor
/- The package rosetteref20, by the abstract machine: size, Gcd, Of, Inverse, Bezout, lcm, Lcm. -/
namespace Go.Proofs.YtjbagikfogejnaaGreatDoor
open Go.RowKit Go.Deep
/-- The inverse, as the reference reckons it. -/
def invZ (a m : Int) : Int := (eucR true m.natAbs (a % m).natAbs).2.2 % m
/-! ### the inverse is one -/
theorem inv_unique {u x y m : Int} (hm : 0 < m) (hx0 : 0 ≤ x) (hx : x < m) (hy0 : 0 ≤ y) (hy : y < m) (h1 : m ∣ u * x - 1) (h2 : m ∣ u * y - 1) : x = y := by
  have h3 : m ∣ x - y := by
    have e : x - y = y * (u * x - 1) - x * (u * y - 1) := by
      rw [Int.mul_sub, Int.mul_sub, ← Int.mul_assoc, ← Int.mul_assoc, Int.mul_comm y u, Int.mul_assoc u y x, Int.mul_comm y x, ← Int.mul_assoc, Int.mul_comm x u]
      omega
    rw [e]
    exact Int.dvd_sub (Int.dvd_mul_of_dvd_right h1) (Int.dvd_mul_of_dvd_right h2)
  obtain ⟨k, hk⟩ := h3
  rcases Int.lt_trichotomy k 0 with h | h | h
  · have : m * k ≤ m * (-1) := Int.mul_le_mul_of_nonneg_left (by omega) (by omega)
    omega
  · subst h; omega
  · have : m * 1 ≤ m * k := Int.mul_le_mul_of_nonneg_left (by omega) (by omega)
    omega
theorem invZ_spec (a m : Int) (h0 : 0 < m) : 0 ≤ invZ a m ∧ invZ a m < m ∧ m ∣ a * invZ a m - gcdZ a m := by
  unfold invZ
  obtain ⟨x2, y2, h⟩ := eucR_row true m.natAbs (a % m).natAbs
  have h1 := h.made0 rfl
  rw [eucR_gcd] at h1
  obtain ⟨Y, hY⟩ : ∃ Y, (eucR true m.natAbs (a % m).natAbs).2.2 = Y := ⟨_, rfl⟩
  obtain ⟨X, hX⟩ : ∃ X, (eucR true m.natAbs (a % m).natAbs).2.1 = X := ⟨_, rfl⟩
  rw [hX, hY] at h1
  rw [hY]
  refine ⟨Int.emod_nonneg _ (by omega), Int.emod_lt_of_pos _ h0, ?_⟩
  have r0 := Int.emod_nonneg a (show m ≠ 0 by omega)
  have eg : ((Nat.gcd m.natAbs (a % m).natAbs : Nat) : Int) = gcdZ a m := by
    unfold gcdZ
    congr 1
    have h2 : m * (a / m) + a % m = a := Int.mul_ediv_add_emod a m
    refine Nat.dvd_antisymm (Nat.dvd_gcd ?_ (Nat.gcd_dvd_left _ _)) (Nat.dvd_gcd (Nat.gcd_dvd_right _ _) ?_)
    · have d1 := Int.ofNat_dvd_left.2 (Nat.gcd_dvd_left m.natAbs (a % m).natAbs)
      have d2 := Int.ofNat_dvd_left.2 (Nat.gcd_dvd_right m.natAbs (a % m).natAbs)
      refine Int.ofNat_dvd_left.1 ?_
      have d3 := Int.dvd_add (Int.dvd_trans d1 (Int.dvd_mul_right m (a / m))) d2
      rwa [h2] at d3
    · have d1 := Int.ofNat_dvd_left.2 (Nat.gcd_dvd_left a.natAbs m.natAbs)
      have d2 := Int.ofNat_dvd_left.2 (Nat.gcd_dvd_right a.natAbs m.natAbs)
      refine Int.ofNat_dvd_left.1 ?_
      have d3 := Int.dvd_sub d1 (Int.dvd_trans d2 (Int.dvd_mul_right m (a / m)))
      rwa [show a - m * (a / m) = a % m by omega] at d3
  rw [eg, show (m.natAbs : Int) = m by omega, show ((a % m).natAbs : Int) = a % m by omega] at h1
  have h2 : a * (Y % m) - gcdZ a m = m * (-(a * (Y / m)) + a / m * Y - X) := by
    have e1 : m * (Y / m) + Y % m = Y := Int.mul_ediv_add_emod Y m
    have e2 : m * (a / m) + a % m = a := Int.mul_ediv_add_emod a m
    have e3 : Y % m = Y - m * (Y / m) := by omega
    have e4 : a % m = a - m * (a / m) := by omega
    rw [e4] at h1
    rw [e3, ← h1, Int.mul_sub, Int.sub_mul, Int.mul_sub, Int.mul_add, Int.mul_neg, ← Int.mul_assoc a m, Int.mul_comm a m, Int.mul_assoc m a, ← Int.mul_assoc m (a / m) Y]
    omega
  rw [h2]
  exact Int.dvd_mul_right _ _
theorem bzX_spec {a b : Int} (hb : b ≠ 0) : 0 ≤ bzX a b ∧ bzX a b < bM a b ∧ b ∣ gcdZ a b - a * bzX a b := by
  have hp := bM_pos (a := a) hb
  have e : bzX a b = eX a b % bM a b := by unfold bzX; rw [if_neg hb]
  rw [e]
  refine ⟨Int.emod_nonneg _ (by omega), Int.emod_lt_of_pos _ hp, ?_⟩
  have h1 := e_made a b
  have h2 : bM a b * (eX a b / bM a b) + eX a b % bM a b = eX a b := Int.mul_ediv_add_emod _ _
  have h3 : eX a b % bM a b = eX a b - bM a b * (eX a b / bM a b) := by omega
  have h4 := bT_mul (a := a) hb
  refine ⟨eY a b + bT a b * (eX a b / bM a b), ?_⟩
  rw [h3, ← h1, Int.mul_sub, Int.mul_add, ← Int.mul_assoc b, h4, Int.mul_assoc]
  omega
end Go.Proofs.YtjbagikfogejnaaGreatDoor
/- Powers modulo a number, bit by bit: plain facts. -/
namespace Go.Proofs.YtjbagikfogejnaaGreatDoor
theorem drop_val {L : List Nat} (h : Small L) (i : Nat) : val (L.drop i) = val L / 2 ^ (64 * i) := by
  rw [← W64_pow]
  rcases Nat.lt_or_ge i L.length with hi | hi
  · rw [val_split L i (Nat.le_of_lt hi)]
    have hlt := val_lt (h.take i)
    rw [List.length_take, Nat.min_eq_left (Nat.le_of_lt hi)] at hlt
    rw [Nat.add_mul_div_left _ _ (Nat.pow_pos W64_pos), Nat.div_eq_of_lt hlt, Nat.zero_add]
  · rw [List.drop_eq_nil_of_le hi, val_nil, Nat.div_eq_of_lt]
    exact Nat.lt_of_lt_of_le (val_lt h) (Nat.pow_le_pow_right W64_pos hi)
/-- A limb's bit is the number's. -/
theorem limb_bit {L : List Nat} (h : Small L) {i x : Nat} (hx : L[i]? = some x) {j : Nat} (hj : j < 64) : x / 2 ^ j % 2 = val L / 2 ^ (64 * i + j) % 2 := by
  have hi := (List.getElem?_eq_some_iff.1 hx).1
  have e : L.getD i 0 = x := by simp [List.getD_eq_getElem?_getD, hx]
  have h1 := val_drop_step L i hi
  rw [e, drop_val h] at h1
  rw [Nat.pow_add, ← Nat.div_div_eq_div_mul, h1, W64_two, show (2 : Nat) ^ 64 = 2 ^ j * (2 * 2 ^ (63 - j)) by rw [← Nat.pow_succ', ← Nat.pow_add]; congr 1; omega, Nat.mul_assoc, Nat.add_mul_div_left _ _ (Nat.pow_pos (by decide)), Nat.mul_assoc, Nat.add_mul_mod_self_left]
/-- One bit more of an exponent. -/
theorem bit_more (E s : Nat) : E / 2 ^ s = 2 * (E / 2 ^ (s + 1)) + E / 2 ^ s % 2 := by
  rw [Nat.pow_succ, ← Nat.div_div_eq_div_mul]
  omega
theorem pow_twice (a m : Int) (n : Nat) : a ^ n % m * (a ^ n % m) % m = a ^ (2 * n) % m := by
  rw [← Int.mul_emod, ← Int.pow_add, Nat.two_mul]
theorem pow_once (a m : Int) (n : Nat) : a ^ n % m * a % m = a ^ (n + 1) % m := by
  rw [Int.mul_emod, Int.emod_emod, ← Int.mul_emod, Int.pow_succ]
theorem pow_step (a m : Int) (E s : Nat) : a ^ (E / 2 ^ s) % m = if E / 2 ^ s % 2 = 1 then (a ^ (E / 2 ^ (s + 1)) % m * (a ^ (E / 2 ^ (s + 1)) % m) % m) * a % m else a ^ (E / 2 ^ (s + 1)) % m * (a ^ (E / 2 ^ (s + 1)) % m) % m := by
  have hb := bit_more E s
  split
  · rename_i h
    rw [pow_twice, pow_once]
    congr 2
    omega
  · rename_i h
    have h0 : E / 2 ^ s % 2 = 0 := by omega
    rw [pow_twice]
    congr 2
    omega
theorem pow_top {E k : Nat} (h : E < 2 ^ k) (a m : Int) : a ^ (E / 2 ^ k) % m = 1 % m := by rw [Nat.div_eq_of_lt h, Int.pow_zero]
end Go.Proofs.YtjbagikfogejnaaGreatDoor
/- The symbol of Jacobi, as both reckon it: plain facts. -/
namespace Go.Proofs.YtjbagikfogejnaaGreatDoor
/-- A two more: the sign by the modulus. -/
def flip2 (y : Nat) (s : Int) : Int := if y % 8 = 3 ∨ y % 8 = 5 then -s else s
/-- The change of places: the sign by both. -/
def flip4 (x y : Nat) (s : Int) : Int := if x % 4 = 3 ∧ y % 4 = 3 then -s else s
/-- What is left, with as many steps as there may be. -/
def jacF : Nat → Nat → Nat → Int → Int
  | 0, _, _, _ => 0
  | k + 1, x, y, s => if x = 0 then (if y = 1 then s else 0) else if x % 2 = 0 then jacF k (x / 2) y (flip2 y s) else jacF k (y % x) x (flip4 x y s)
def jac (x y : Nat) (s : Int) : Int := jacF (x + 1) x y s
end Go.Proofs.YtjbagikfogejnaaGreatDoor
/- Inverses modulo a number: plain facts. -/
namespace Go.Proofs.YtjbagikfogejnaaGreatDoor
/-- Euclid's steps, the factors modulo m. -/
structure IRow (a m x y u v : Nat) : Prop where
  g : Nat.gcd x y = Nat.gcd m a
  hu : (m : Int) ∣ (u : Int) * a - x
  hv : (m : Int) ∣ (v : Int) * a - y
  ul : u < m
  vl : v < m
theorem IRow.start {a m : Nat} (m0 : 0 < m) : IRow a m m (a % m) 0 (1 % m) := by
  refine ⟨?_, ?_, ?_, m0, Nat.mod_lt _ m0⟩
  · rw [Nat.gcd_comm m (a % m), ← Nat.gcd_rec]
  · exact ⟨-1, by omega⟩
  · have e1 := Nat.div_add_mod a m
    have e2 := Nat.div_add_mod 1 m
    refine ⟨(a / m : Nat) - (1 / m : Nat) * a, ?_⟩
    have h1 : ((a % m : Nat) : Int) = a - m * (a / m : Nat) := by omega
    have h2 : ((1 % m : Nat) : Int) = 1 - m * (1 / m : Nat) := by omega
    rw [h1, h2]
    grind
theorem IRow.step {a m x y u v : Nat} (h : IRow a m x y u v) : IRow a m y (x % y) v ((u + (m - x / y * v % m)) % m) := by
  obtain ⟨h1, h2, h3, h4, h5⟩ := h
  have m0 : 0 < m := by omega
  refine ⟨?_, h3, ?_, h5, Nat.mod_lt _ m0⟩
  · rw [← h1, Nat.gcd_comm x y, Nat.gcd_comm y (x % y), ← Nat.gcd_rec]
  · obtain ⟨c1, e1⟩ := h2
    obtain ⟨c2, e2⟩ := h3
    have hp : x / y * v % m < m := Nat.mod_lt _ m0
    have f1 := Nat.div_add_mod (x / y * v) m
    have f2 := Nat.div_add_mod (u + (m - x / y * v % m)) m
    have f3 := Nat.div_add_mod x y
    obtain ⟨q, hq⟩ : ∃ q, x / y = q := ⟨_, rfl⟩
    rw [hq] at f1 f2 f3 hp ⊢
    obtain ⟨p, hpp⟩ : ∃ p, q * v % m = p := ⟨_, rfl⟩
    rw [hpp] at f1 f2 hp ⊢
    obtain ⟨w, hw⟩ : ∃ w, (u + (m - p)) % m = w := ⟨_, rfl⟩
    rw [hw] at f2 ⊢
    obtain ⟨r, hr⟩ : ∃ r, x % y = r := ⟨_, rfl⟩
    rw [hr] at f3 ⊢
    obtain ⟨k1, hk1⟩ : ∃ k, (u + (m - p)) / m = k := ⟨_, rfl⟩
    rw [hk1] at f2
    obtain ⟨k2, hk2⟩ : ∃ k, q * v / m = k := ⟨_, rfl⟩
    rw [hk2] at f1
    have g1 : (m : Int) * k2 + p = q * v := by exact_mod_cast f1
    have g2 : (m : Int) * k1 + w = u + (m - p) := by
      have : ((m * k1 + w : Nat) : Int) = ((u + (m - p) : Nat) : Int) := by rw [f2]
      rw [Int.natCast_add, Int.natCast_mul] at this
      omega
    have g3 : (y : Int) * q + r = x := by exact_mod_cast f3
    refine ⟨c1 - q * c2 + a + k2 * a - k1 * a, ?_⟩
    grind
theorem IRow.done {a m x u v : Nat} (h : IRow a m x 0 u v) (h1 : Nat.gcd m a = 1) : (u : Int) = invZ a m := by
  obtain ⟨g, hu, _, ul, _⟩ := h
  have hx : x = 1 := by rw [Nat.gcd_zero_right] at g; omega
  subst hx
  have m0 : (0 : Int) < m := by omega
  obtain ⟨i0, i1, i2⟩ := invZ_spec (a : Int) (m : Int) m0
  have hg : gcdZ (a : Int) (m : Int) = 1 := by
    unfold gcdZ
    rw [Int.natAbs_natCast, Int.natAbs_natCast, Nat.gcd_comm, h1]
    rfl
  rw [hg] at i2
  refine inv_unique m0 (by omega) (by omega) i0 i1 ?_ i2
  rw [Int.mul_comm]
  exact hu
end Go.Proofs.YtjbagikfogejnaaGreatDoor
/- Powers and orders modulo a number: what is told, in plain words. -/
namespace Go.Proofs.YtjbagikfogejnaaGreatDoor
/-- Down by one prime, so many steps at most. -/
def down1 (f : Nat → Bool) (p : Nat) : Nat → Nat → Nat
  | 0, n => n
  | k + 1, n => if f (n / p) then down1 f p k (n / p) else n
def downs (f : Nat → Bool) : List (Nat × Nat) → Nat → Nat
  | [], n => n
  | q :: l, n => downs f l (down1 f q.1 q.2 n)
def wholeP : List (Nat × Nat) → Nat
  | [] => 1
  | q :: l => q.1 ^ q.2 * wholeP l
theorem wholeP_pos {l : List (Nat × Nat)} (h : ∀ q ∈ l, 0 < q.1) : 0 < wholeP l := by
  induction l with
  | nil => exact Nat.one_pos
  | cons q l ih => exact Nat.mul_pos (Nat.pow_pos (h q (by simp))) (ih fun x hx => h x (by simp [hx]))
theorem wholeP_app (l k : List (Nat × Nat)) : wholeP (l ++ k) = wholeP l * wholeP k := by
  induction l with
  | nil => simp [wholeP]
  | cons q l ih => rw [List.cons_append]; simp only [wholeP]; rw [ih, Nat.mul_assoc]
theorem wholeP_next {l : List (Nat × Nat)} {i : Nat} {q : Nat × Nat} (h : l[i]? = some q) : wholeP (l.take (i + 1)) = wholeP (l.take i) * q.1 ^ q.2 := by
  obtain ⟨hi, rfl⟩ := List.getElem?_eq_some_iff.1 h
  rw [List.take_succ_eq_append_getElem hi, wholeP_app]
  simp [wholeP]
theorem wholeP_part {l : List (Nat × Nat)} (h0 : ∀ q ∈ l, 0 < q.1) {i : Nat} {q : Nat × Nat} (h : l[i]? = some q) {k : Nat} (hk : k ≤ q.2) : wholeP (l.take i) * q.1 ^ k ≤ wholeP l := by
  have hi := (List.getElem?_eq_some_iff.1 h).1
  have hq := h0 q (List.mem_of_getElem? h)
  have e : wholeP l = wholeP (l.take (i + 1)) * wholeP (l.drop (i + 1)) := by rw [← wholeP_app, List.take_append_drop]
  rw [e, wholeP_next h]
  have h1 : q.1 ^ k ≤ q.1 ^ q.2 := Nat.pow_le_pow_right hq hk
  have h2 : 0 < wholeP (l.drop (i + 1)) := wholeP_pos fun x hx => h0 x (List.mem_of_mem_drop hx)
  exact Nat.le_trans (Nat.mul_le_mul_left _ h1) (Nat.le_mul_of_pos_right _ h2)
theorem wholeP_prime {l : List (Nat × Nat)} (h0 : ∀ q ∈ l, 0 < q.1) {i : Nat} {q : Nat × Nat} (h : l[i]? = some q) (hk : 1 ≤ q.2) : q.1 ≤ wholeP l := by
  have h1 := wholeP_part h0 h hk
  have h2 : 0 < wholeP (l.take i) := wholeP_pos fun x hx => h0 x (List.mem_of_mem_take hx)
  rw [Nat.pow_one] at h1
  exact Nat.le_trans (Nat.le_mul_of_pos_left _ h2) h1
theorem downs_next (f : Nat → Bool) {l : List (Nat × Nat)} {i : Nat} {q : Nat × Nat} (h : l[i]? = some q) (n : Nat) : downs f (l.drop i) n = downs f (l.drop (i + 1)) (down1 f q.1 q.2 n) := by
  obtain ⟨hi, rfl⟩ := List.getElem?_eq_some_iff.1 h
  rw [List.drop_eq_getElem_cons hi]
  rfl
/-- Is a to the power n alike 1? -/
def isZ (x m : Int) (n : Nat) : Bool := decide (x ^ n % m = 1 % m)
theorem pow_below {x m : Int} (hm : 0 < m) (n : Nat) : 0 ≤ x ^ n % m ∧ x ^ n % m < m := ⟨Int.emod_nonneg _ (by omega), Int.emod_lt_of_pos _ hm⟩
theorem pow_base (a m : Int) (n : Nat) : (a % m) ^ n % m = a ^ n % m := by
  induction n with
  | zero => rw [Int.pow_zero, Int.pow_zero]
  | succ n ih => rw [Int.pow_succ, Int.pow_succ, Int.mul_emod, ih, Int.emod_emod, ← Int.mul_emod]
theorem invZ_base (a m : Int) : invZ (a % m) m = invZ a m := by
  unfold invZ
  rw [Int.emod_emod]
/-- A power, of a negative exponent that of the inverse. -/
def powE (a e m : Int) : Int := if e < 0 then invZ a m ^ e.natAbs % m else (a % m) ^ e.natAbs % m
theorem gcdZ_base {a m : Int} (hm : 0 < m) : gcdZ (a % m) m = gcdZ a m := by
  have r0 := Int.emod_nonneg a (show m ≠ 0 by omega)
  unfold gcdZ
  congr 1
  have h2 : m * (a / m) + a % m = a := Int.mul_ediv_add_emod a m
  refine Nat.dvd_antisymm (Nat.dvd_gcd ?_ (Nat.gcd_dvd_right _ _)) (Nat.dvd_gcd ?_ (Nat.gcd_dvd_right _ _))
  · have d1 := Int.ofNat_dvd_left.2 (Nat.gcd_dvd_right (a % m).natAbs m.natAbs)
    have d2 := Int.ofNat_dvd_left.2 (Nat.gcd_dvd_left (a % m).natAbs m.natAbs)
    refine Int.ofNat_dvd_left.1 ?_
    have d3 := Int.dvd_add (Int.dvd_trans d1 (Int.dvd_mul_right m (a / m))) d2
    rwa [h2] at d3
  · have d1 := Int.ofNat_dvd_left.2 (Nat.gcd_dvd_right a.natAbs m.natAbs)
    have d2 := Int.ofNat_dvd_left.2 (Nat.gcd_dvd_left a.natAbs m.natAbs)
    refine Int.ofNat_dvd_left.1 ?_
    have d3 := Int.dvd_sub d2 (Int.dvd_trans d1 (Int.dvd_mul_right m (a / m)))
    rwa [show a - m * (a / m) = a % m by omega] at d3
/-- Bezout's first factor, modulo m, is the inverse. -/
theorem bz_inv {a m : Int} (hm : 0 < m) (h1 : gcdZ a m = 1) : bzX (a % m) m % m = invZ a m := by
  obtain ⟨i0, i1, i2⟩ := invZ_spec a m hm
  rw [h1] at i2
  obtain ⟨b0, b1, b2⟩ := bzX_spec (a := a % m) (b := m) (by omega)
  rw [gcdZ_base hm, h1] at b2
  refine inv_unique hm (Int.emod_nonneg _ (by omega)) (Int.emod_lt_of_pos _ hm) i0 i1 ?_ i2
  obtain ⟨c, hc⟩ := b2
  obtain ⟨B, hB⟩ : ∃ B, bzX (a % m) m = B := ⟨_, rfl⟩
  rw [hB] at hc ⊢
  have e1 : m * (a / m) + a % m = a := Int.mul_ediv_add_emod a m
  have e2 : m * (B / m) + B % m = B := Int.mul_ediv_add_emod B m
  refine ⟨-c + (a / m) * B - a * (B / m), ?_⟩
  have e3 : B % m = B - m * (B / m) := by omega
  have e4 : a % m = a - m * (a / m) := by omega
  rw [e3]
  rw [e4] at hc
  grind
end Go.Proofs.YtjbagikfogejnaaGreatDoor
/- The package power, by the abstract machine: modulus, unit, products, powers. -/
namespace Go.Proofs.YtjbagikfogejnaaGreatDoor
open Go.RowKit Go.Deep
def muE (x : Raw) : Int := if ((x.2.length : Int) == 0) = true then 7 else if x.1 = true then 2 else 0
theorem muE_pos {m : Int} (h : 0 < m) : muE (rawOf m) = 0 := by
  unfold muE
  rw [if_neg, if_neg]
  · show ¬ decide (m < 0) = true
    rw [decide_eq_false (by omega)]; decide
  · intro e
    have := rawOf_len0.1 (show (rawOf m).2.length = 0 by have := of_decide_eq_true e; omega)
    omega
set_option maxRecDepth 100000 in
theorem ct_pmodulus (x : Raw) : Ct Tryz.prog 51 [aNum x] (.val (aI (muE x))) := by
  refine ct_of_wp [.tmp 2] [(0, aNum x)] 11 Tryz.func51 rfl rfl rfl rfl rfl rfl rfl rfl ?_
  intro G0 w0
  have k1 := ct_Right x
  repeat first | refine Wp_seq ?_ | refine Wp_region tm_mixed ?_ | refine AW_assign rfl rfl ?_ | refine AW_box rfl rfl (row := true) rfl (fun h => by cases h) rfl ?_ | refine AW_fieldAddr rfl tf_mag rfl rfl ?_ | refine AW_load rfl ty_mag rfl rfl rfl rfl ?_ | refine AW_len rfl rfl Tryz.underlying22 ?_ | refine AW_eq rfl rfl rfl ?_ | refine AW_nil (fun (h : false = true) => by cases h) ?_ | refine Wp_block ?_
  refine Wp_cond rfl (fun hc => ?_) (fun hc => ?_)
  · repeat first | refine Wp_seq ?_ | refine Wp_region tm_mixed ?_ | refine AW_assign rfl rfl ?_ | refine AW_nil (fun (h : false = true) => by cases h) ?_ | refine Wp_ret ?_
    exact ⟨.inr rfl, _, .tmp _ _ _ _ rfl .nil, by unfold muE; rw [if_pos hc]; rfl⟩
  · repeat first | refine Wp_seq ?_ | refine Wp_region tm_mixed ?_ | refine AW_assign rfl rfl ?_ | refine AW_fieldAddr rfl tf_neg rfl rfl ?_ | refine AW_load rfl ty_bool rfl rfl rfl rfl ?_ | refine AW_nil (fun (h : false = true) => by cases h) ?_
    refine Wp_cond rfl (fun hd => ?_) (fun hd => ?_)
    · repeat first | refine Wp_seq ?_ | refine Wp_region tm_mixed ?_ | refine AW_assign rfl rfl ?_ | refine AW_nil (fun (h : false = true) => by cases h) ?_ | refine Wp_ret ?_
      exact ⟨.inr rfl, _, .tmp _ _ _ _ rfl .nil, by unfold muE; rw [if_neg (by rw [hc]; decide), if_pos hd]; rfl⟩
    · repeat first | refine Wp_seq ?_ | refine Wp_region tm_mixed ?_ | refine AW_assign rfl rfl ?_ | refine AW_nil (fun (h : false = true) => by cases h) ?_ | refine Wp_skip ?_ | refine Wp_ret ?_
      exact ⟨.inr rfl, _, .tmp _ _ _ _ rfl .nil, by unfold muE; rw [if_neg (by rw [hc]; decide), if_neg (by rw [hd]; decide)]; rfl⟩
set_option maxRecDepth 100000 in
theorem ct_unit (m : Int) (hm : lc m.natAbs ≤ 1200) (h0 : 0 < m) : Ct Tryz.prog 72 [aZ m] (aZ (1 % m)) := by
  refine ct_of_wp [.cell 2 24] [(0, aZ m)] 12 Tryz.func72 rfl rfl rfl rfl rfl rfl rfl rfl ?_
  intro G0 w0
  have k1 := ct_limbOf 1 (by decide) (by decide)
  have k2 := ct_ModP 1 m (Nat.le_trans (lc_le.2 (show (1 : Int).natAbs < W64 ^ 1 by rw [Nat.pow_one, W64_eq]; decide)) (by decide)) hm h0
  repeat first | refine Wp_seq ?_ | refine Wp_region tm_mixed ?_ | refine AW_move rfl rfl ?_ | refine AW_assign rfl rfl ?_ | refine AW_load rfl ty_num rfl rfl rfl rfl ?_ | refine AW_store ty_num rfl rfl rfl rfl rfl rfl rfl ?_ | refine AW_extract rfl rfl rfl ?_ | refine AW_alloc rfl tz_num ?_ | refine AW_box rfl rfl (row := true) rfl (fun h => by cases h) rfl ?_ | refine AW_call rfl rfl (by first | exact k1 | exact k2) ?_ | refine AW_nil (fun (h : false = true) => by cases h) ?_ | refine AW_nil (fun (_ : true = true) => by kernel_rfl) ?_ | refine Wp_ret ?_
  exact ⟨.inr rfl, _, .cell _ _ _ _ _ _ _ _ _ _ _ ty_num rfl rfl rfl .nil, rfl⟩
theorem len_raw (z : Int) : (rawOf z).2.length = lc z.natAbs := rfl
set_option maxRecDepth 100000 in
theorem ct_times1 (a b m : Int) (ha : lc a.natAbs ≤ 90) (hb : lc b.natAbs ≤ 90) (hm : lc m.natAbs ≤ 90) (h0 : 0 < m) : Ct Tryz.prog 100 [aZ a, aZ b, aZ m] (aZ (a * b % m)) := by
  refine ct_of_wp [.cell 6 24] [(0, aZ a), (1, aZ b), (2, aZ m)] 36 Tryz.func100 rfl rfl rfl rfl rfl rfl rfl rfl ?_
  intro G0 w0
  have k1 := ct_Mul0 a b (by omega) (by omega) (by omega)
  have lp : lc (a * b).natAbs ≤ 180 := by rw [Int.natAbs_mul]; have := lc_mul a.natAbs b.natAbs; omega
  have k2 := ct_ModP (a * b) m (by omega) (by omega) h0
  have hS : IntKind.i64.wrap (((rawOf a).2.length : Int) + ((rawOf b).2.length : Int)) = ((rawOf a).2.length : Int) + ((rawOf b).2.length : Int) := wrap_i64_in (by omega) (by rw [len_raw, len_raw]; omega)
  have hT : decide (((rawOf a).2.length : Int) + ((rawOf b).2.length : Int) ≤ 4096) = true := decide_eq_true (by rw [len_raw, len_raw]; omega)
  repeat first | refine Wp_seq ?_ | refine Wp_region tm_mixed ?_ | refine AW_alloc rfl tz_num ?_ | refine AW_box rfl rfl (row := true) rfl (fun h => by cases h) rfl ?_ | refine AW_fieldAddr rfl tf_mag rfl rfl ?_ | refine AW_load rfl ty_mag rfl rfl rfl rfl ?_ | refine AW_len rfl rfl Tryz.underlying22 ?_ | refine AW_quiet rfl (q_addE rfl rfl hS) ?_ | refine AW_quiet rfl (q_leE rfl rfl hT) ?_ | refine AW_nil (fun (h : false = true) => by cases h) ?_
  refine Wp_condT rfl ?_
  repeat first | refine Wp_seq ?_ | refine Wp_region tm_mixed ?_ | refine AW_move rfl rfl ?_ | refine AW_assign rfl rfl ?_ | refine AW_load rfl ty_num rfl rfl rfl rfl ?_ | refine AW_store ty_num rfl rfl rfl rfl rfl rfl rfl ?_ | refine AW_extract rfl rfl rfl ?_ | refine AW_alloc rfl tz_num ?_ | refine AW_call rfl rfl (by first | exact k1 | exact k2) ?_ | refine AW_nil (fun (h : false = true) => by cases h) ?_ | refine Wp_ret ?_
  exact ⟨.inr rfl, _, .cell _ _ _ _ _ _ _ _ _ _ _ ty_num rfl rfl rfl .nil, rfl⟩
theorem pow_lc {a m : Int} {n k : Nat} (h0 : 0 < m) (hm : lc m.natAbs ≤ k) : lc (a ^ n % m).natAbs ≤ k := by
  have := pow_below (x := a) h0 n
  exact Nat.le_trans (lc_mono (show (a ^ n % m).natAbs ≤ m.natAbs by omega)) hm
theorem getElem_small {L : List Nat} (h : Small L) {k x : Nat} (hx : L[k]? = some x) : x < W64 := by
  have := h.getD k
  rwa [show L.getD k 0 = x by simp [List.getD_eq_getElem?_getD, hx]] at this
set_option maxHeartbeats 1000000 in
set_option maxRecDepth 100000 in
theorem ct_power (a m : Int) (E : Nat) (ha : lc a.natAbs ≤ 90) (hm : lc m.natAbs ≤ 90) (h0 : 0 < m) (hE : lc E ≤ 4096) : Ct Tryz.prog 52 [aZ a, aZ (E : Int), aZ m] (aZ (a ^ E % m)) := by
  refine ct_of_wp [.cell 6 24] [(0, aZ a), (1, aZ (E : Int)), (2, aZ m)] 43 Tryz.func52 rfl rfl rfl rfl rfl rfl rfl rfl ?_
  intro G0 w0
  have kU := ct_unit m (by omega) h0
  have hE2 : E < 2 ^ (64 * lc E) := by rw [← W64_pow]; exact lc_le.1 (Nat.le_refl _)
  rw [← pow_top hE2 a m] at kU
  have hS : IntKind.i64.wrap (((rawOf (E : Int)).2.length : Int) - 1) = (lc E : Int) - 1 := by
    rw [len_raw, Int.natAbs_natCast]
    exact wrap_i64_in (by omega) (by omega)
  repeat first | refine Wp_seq ?_ | refine Wp_region tm_mixed ?_ | refine AW_assign rfl rfl ?_ | refine AW_load rfl ty_num rfl rfl rfl rfl ?_ | refine AW_store ty_num rfl rfl rfl rfl rfl rfl rfl ?_ | refine AW_alloc rfl tz_num ?_ | refine AW_box rfl rfl (row := true) rfl (fun h => by cases h) rfl ?_ | refine AW_call rfl rfl (by first | exact kU) ?_ | refine AW_fieldAddr rfl tf_mag rfl rfl ?_ | refine AW_load rfl ty_mag rfl rfl rfl rfl ?_ | refine AW_len rfl rfl Tryz.underlying22 ?_ | refine AW_quiet rfl (q_subE rfl rfl hS) ?_ | refine AW_nil (fun (h : false = true) => by cases h) ?_ | refine Wp_block ?_
  refine Wp_loop (fun j : Nat => ⟨[(3, .val (.one (.ptr 0 0))), (4, .val (.one (.ptr 1 0))), (5, .val (.one (.ptr 2 0))), (6, .val (.one (.ptr 3 0))), (7, .val (.one (.ptr 4 0))), (8, .val (aI ((j : Int) - 1)))],
    [(0, 24, [.b (rawOf a).1, .st (magP (rawOf a).2)]), (1, 24, [.b (rawOf (E : Int)).1, .st (magP (rawOf (E : Int)).2)]), (2, 24, [.b (rawOf m).1, .st (magP (rawOf m).2)]), (3, 24, [.b false, .st (magP [])]),
     (4, 24, [.b (rawOf (a ^ (E / 2 ^ (64 * j)) % m)).1, .st (magP (rawOf (a ^ (E / 2 ^ (64 * j)) % m)).2)])], 5⟩) (fun j => j ≤ lc E) (fun j => j) (lc E) (Nat.le_refl _) (le_of ⟨rfl, rfl, rfl, rfl, rfl, rfl, trivial⟩ ⟨rfl, rfl, rfl, rfl, rfl, trivial⟩ rfl) ?_
  intro j hj
  repeat first | refine Wp_seq ?_ | refine Wp_region tm_mixed ?_ | refine AW_move rfl rfl ?_ | refine AW_ge rfl rfl rfl ?_ | refine AW_nil (fun (h : false = true) => by cases h) ?_
  refine Wp_cond rfl (fun hc => ?_) (fun hc => ?_)
  · have hj0 : 0 < j := by have := of_decide_eq_true hc; omega
    obtain ⟨i, rfl⟩ : ∃ i, j = i + 1 := ⟨j - 1, by omega⟩
    have ei : ((i + 1 : Nat) : Int) - 1 = (i : Int) := by omega
    rw [ei]
    obtain ⟨x, hx⟩ : ∃ x, (limbs E)[i]? = some x := ⟨_, List.getElem?_eq_getElem (show i < (limbs E).length from hj)⟩
    have hx' : (rawOf (E : Int)).2[i]? = some x := hx
    have hxW := getElem_small (small_limbs E) hx
    repeat first | refine Wp_seq ?_ | refine Wp_region tm_mixed ?_ | refine AW_move rfl rfl ?_ | refine AW_nil (fun (h : false = true) => by cases h) ?_ | refine Wp_block ?_ | refine Wp_skip ?_
    refine Wp_loop (fun k : Nat => ⟨[(3, .val (.one (.ptr 0 0))), (4, .val (.one (.ptr 1 0))), (5, .val (.one (.ptr 2 0))), (6, .val (.one (.ptr 3 0))), (7, .val (.one (.ptr 4 0))), (8, .val (aI (i : Int))), (20, .val (aI (k : Int)))],
      [(0, 24, [.b (rawOf a).1, .st (magP (rawOf a).2)]), (1, 24, [.b (rawOf (E : Int)).1, .st (magP (rawOf (E : Int)).2)]), (2, 24, [.b (rawOf m).1, .st (magP (rawOf m).2)]), (3, 24, [.b false, .st (magP [])]),
       (4, 24, [.b (rawOf (a ^ (E / 2 ^ (64 * (i + 1) - k)) % m)).1, .st (magP (rawOf (a ^ (E / 2 ^ (64 * (i + 1) - k)) % m)).2)])], 5⟩) (fun k => k ≤ 64) (fun k => 64 - k) 0 (by omega) (le_of ⟨rfl, rfl, rfl, rfl, rfl, rfl, rfl, trivial⟩ ⟨rfl, rfl, rfl, rfl, rfl, trivial⟩ rfl) ?_
    intro k hk
    repeat first | refine Wp_seq ?_ | refine Wp_region tm_mixed ?_ | refine AW_quiet rfl (q_lt rfl rfl) ?_ | refine AW_nil (fun (h : false = true) => by cases h) ?_
    refine Wp_cond rfl (fun hc => ?_) (fun hc => ?_)
    · have hk1 : k < 64 := by have := of_decide_eq_true hc; omega
      have es : 64 * (i + 1) - k = 64 * i + (63 - k) + 1 := by omega
      have es2 : 64 * (i + 1) - (k + 1) = 64 * i + (63 - k) := by omega
      have hstep := pow_step a m E (64 * i + (63 - k))
      have hbit := limb_bit (small_limbs E) hx (j := 63 - k) (by omega)
      rw [val_limbs] at hbit
      rw [es]
      obtain ⟨X, hX⟩ : ∃ X, a ^ (E / 2 ^ (64 * i + (63 - k) + 1)) % m = X := ⟨_, rfl⟩
      have lX : lc X.natAbs ≤ 90 := by rw [← hX]; exact pow_lc h0 hm
      rw [hX] at hstep ⊢
      have q1 := ct_times1 X X m lX lX hm h0
      have lX2 : lc (X * X % m).natAbs ≤ 90 := by
        have h1 := Int.emod_nonneg (X * X) (show m ≠ 0 by omega)
        have h2 := Int.emod_lt_of_pos (X * X) h0
        exact Nat.le_trans (lc_mono (by omega)) hm
      have q2 := ct_times1 (X * X % m) a m lX2 ha hm h0
      have hD : IntKind.i64.wrap (63 - (k : Int)) = ((63 - k : Nat) : Int) := by rw [wrap_i64_in (by omega) (by omega)]; omega
      have hW : x / 2 ^ (63 - k) < 2 ^ 64 := by rw [← W64_two]; exact Nat.lt_of_le_of_lt (Nat.div_le_self _ _) hxW
      repeat first | refine Wp_seq ?_ | refine Wp_region tm_mixed ?_ | refine AW_move rfl rfl ?_ | refine AW_assign rfl rfl ?_ | refine AW_load rfl ty_num rfl rfl rfl rfl ?_ | refine AW_store ty_num rfl rfl rfl rfl rfl rfl rfl ?_ | refine AW_call rfl rfl (by first | exact q1 | exact q2) ?_ | refine AW_fieldAddr rfl tf_mag rfl rfl ?_ | refine AW_load rfl ty_mag rfl rfl rfl rfl ?_ | refine AW_quiet rfl (q_limbAt rfl rfl hj Tryz.underlying22 ts_limb) ?_ | refine AW_quiet rfl (q_limbLoad rfl ty_limb hx') ?_ | refine AW_quiet rfl (q_subE rfl rfl hD) ?_ | refine AW_quiet rfl (q_shr rfl rfl (by show 63 - k ≤ 64; omega) rfl) ?_ | refine AW_quiet rfl (q_andLow 1 rfl rfl (by decide) hW rfl) ?_ | refine AW_eq rfl rfl rfl ?_ | refine AW_nil (fun (h : false = true) => by cases h) ?_ | refine Wp_block ?_ | refine Wp_skip ?_
      refine Wp_cond rfl (fun hb => ?_) (fun hb => ?_)
      · have hb1 : x / 2 ^ (63 - k) % 2 = 1 := by have := of_decide_eq_true hb; omega
        rw [if_pos (by rw [← hbit]; exact hb1)] at hstep
        rw [← hstep] at q2
        have hA : IntKind.i64.wrap ((k : Int) + 1) = ((k + 1 : Nat) : Int) := wrap_succ (by omega)
        repeat first | refine Wp_region tm_mixed ?_ | refine AW_move rfl rfl ?_ | refine AW_load rfl ty_num rfl rfl rfl rfl ?_ | refine AW_store ty_num rfl rfl rfl rfl rfl rfl rfl ?_ | refine AW_call rfl rfl (by first | exact q1 | exact q2) ?_ | refine AW_quiet rfl (q_addE rfl rfl hA) ?_ | refine AW_nil (fun (h : false = true) => by cases h) ?_
        exact ⟨k + 1, by show k + 1 ≤ 64; omega, le_of ⟨rfl, rfl, rfl, rfl, rfl, rfl, rfl, trivial⟩ ⟨rfl, rfl, rfl, rfl, by dsimp only; rw [es2]; rfl, trivial⟩ rfl, by show 64 - (k + 1) < 64 - k; omega⟩
      · have hb1 : ¬ x / 2 ^ (63 - k) % 2 = 1 := fun e => by have := of_decide_eq_false hb; omega
        rw [if_neg (by rw [← hbit]; exact hb1)] at hstep
        have hA : IntKind.i64.wrap ((k : Int) + 1) = ((k + 1 : Nat) : Int) := wrap_succ (by omega)
        repeat first | refine Wp_region tm_mixed ?_ | refine AW_move rfl rfl ?_ | refine AW_quiet rfl (q_addE rfl rfl hA) ?_ | refine AW_nil (fun (h : false = true) => by cases h) ?_ | refine Wp_skip ?_
        exact ⟨k + 1, by show k + 1 ≤ 64; omega, le_of ⟨rfl, rfl, rfl, rfl, rfl, rfl, rfl, trivial⟩ ⟨rfl, rfl, rfl, rfl, by dsimp only; rw [es2, hstep]; rfl, trivial⟩ rfl, by show 64 - (k + 1) < 64 - k; omega⟩
    · have hk1 : k = 64 := by have := of_decide_eq_false hc; omega
      subst hk1
      have hA : IntKind.i64.wrap ((i : Int) - 1) = (i : Int) - 1 := wrap_i64_in (by omega) (by have : i < lc E := hj; omega)
      repeat first | refine Wp_region tm_mixed ?_ | refine AW_move rfl rfl ?_ | refine AW_assign rfl rfl ?_ | refine AW_quiet rfl (q_subE rfl rfl hA) ?_ | refine AW_nil (fun (h : false = true) => by cases h) ?_ | refine Wp_exit ?_
      exact ⟨i, by show i ≤ lc E; omega, le_of ⟨rfl, rfl, rfl, rfl, rfl, rfl, trivial⟩ ⟨rfl, rfl, rfl, rfl, by dsimp only; rw [show 64 * (i + 1) - 64 = 64 * i by omega]; rfl, trivial⟩ rfl, by show i < i + 1; omega⟩
  · have hj0 : j = 0 := by have := of_decide_eq_false hc; omega
    subst hj0
    repeat first | refine Wp_seq ?_ | refine Wp_region tm_mixed ?_ | refine AW_load rfl ty_num rfl rfl rfl rfl ?_ | refine AW_store ty_num rfl rfl rfl rfl rfl rfl rfl ?_ | refine AW_nil (fun (h : false = true) => by cases h) ?_ | refine Wp_exit ?_ | refine Wp_ret ?_
    exact ⟨.inr rfl, _, .cell _ _ _ _ _ _ _ _ _ _ _ ty_num rfl rfl rfl .nil, by rw [Nat.mul_zero, Nat.pow_zero, Nat.div_one]; rfl⟩
end Go.Proofs.YtjbagikfogejnaaGreatDoor
/- The package power, by the abstract machine: one, Inverse, Mod. -/
namespace Go.Proofs.YtjbagikfogejnaaGreatDoor
open Go.RowKit Go.Deep
theorem abs_raw (z : Int) : rawOf (z.natAbs : Int) = (false, (rawOf z).2) := by
  unfold rawOf
  rw [decide_eq_false (show ¬ ((z.natAbs : Int) < 0) by omega), Int.natAbs_natCast]
theorem rawOf_inj {x y : Int} (h : rawOf x = rawOf y) : x = y := by
  have h1 : decide (x < 0) = decide (y < 0) := congrArg Prod.fst h
  have h2 : limbs x.natAbs = limbs y.natAbs := congrArg Prod.snd h
  have h3 : x.natAbs = y.natAbs := by rw [← val_limbs x.natAbs, ← val_limbs y.natAbs, h2]
  have h4 := decide_eq_decide.1 h1
  omega
set_option maxRecDepth 100000 in
theorem ct_pone (x : Raw) : Ct Tryz.prog 61 [aNum x] (.val (aB (decide (x = (false, [1]))))) := by
  refine ct_of_wp [.tmp 2] [(0, aNum x)] 19 Tryz.func61 rfl rfl rfl rfl rfl rfl rfl rfl ?_
  intro G0 w0
  have k1 := ct_Right x
  obtain ⟨s, L⟩ := x
  by_cases h1 : L.length = 1
  · obtain ⟨n, rfl⟩ := List.length_eq_one_iff.1 h1
    have hx' : [n][0]? = some n := rfl
    by_cases hn : n = 1
    · subst hn
      cases s with
      | true =>
        rw [decide_eq_false (by simp)]
        repeat first | refine Wp_seq ?_ | refine Wp_region tm_mixed ?_ | refine AW_move rfl rfl ?_ | refine AW_assign rfl rfl ?_ | refine AW_box rfl rfl (row := true) rfl (fun h => by cases h) rfl ?_ | refine AW_fieldAddr rfl tf_mag rfl rfl ?_ | refine AW_load rfl ty_mag rfl rfl rfl rfl ?_ | refine AW_len rfl rfl Tryz.underlying22 ?_ | refine AW_fieldAddrg rfl rfl rfl rfl tf_mag rfl rfl ?_ | refine AW_fieldAddrg rfl rfl rfl rfl tf_neg rfl rfl ?_ | refine AW_loadg rfl rfl rfl rfl ty_mag rfl rfl rfl rfl ?_ | refine AW_loadg rfl rfl rfl rfl ty_bool rfl rfl rfl rfl ?_ | refine AW_quietg rfl rfl rfl rfl (q_limbAt (k := 0) rfl rfl (by simp) Tryz.underlying22 ts_limb) ?_ | refine AW_quietg rfl rfl rfl rfl (q_limbLoad rfl ty_limb hx') ?_ | refine AW_pickT rfl rfl rfl ?_ | refine AW_notg rfl rfl rfl rfl rfl ?_ | refine AW_eqg rfl rfl rfl rfl rfl rfl ?_ | refine AW_eq rfl rfl rfl ?_ | refine AW_nil (fun (h : false = true) => by cases h) ?_ | refine Wp_ret ?_
        exact ⟨.inr rfl, _, .tmp _ _ _ _ rfl .nil, rfl⟩
      | false =>
        rw [decide_eq_true rfl]
        repeat first | refine Wp_seq ?_ | refine Wp_region tm_mixed ?_ | refine AW_move rfl rfl ?_ | refine AW_assign rfl rfl ?_ | refine AW_box rfl rfl (row := true) rfl (fun h => by cases h) rfl ?_ | refine AW_fieldAddr rfl tf_mag rfl rfl ?_ | refine AW_load rfl ty_mag rfl rfl rfl rfl ?_ | refine AW_len rfl rfl Tryz.underlying22 ?_ | refine AW_fieldAddrg rfl rfl rfl rfl tf_mag rfl rfl ?_ | refine AW_fieldAddrg rfl rfl rfl rfl tf_neg rfl rfl ?_ | refine AW_loadg rfl rfl rfl rfl ty_mag rfl rfl rfl rfl ?_ | refine AW_loadg rfl rfl rfl rfl ty_bool rfl rfl rfl rfl ?_ | refine AW_quietg rfl rfl rfl rfl (q_limbAt (k := 0) rfl rfl (by simp) Tryz.underlying22 ts_limb) ?_ | refine AW_quietg rfl rfl rfl rfl (q_limbLoad rfl ty_limb hx') ?_ | refine AW_pickT rfl rfl rfl ?_ | refine AW_notg rfl rfl rfl rfl rfl ?_ | refine AW_eqg rfl rfl rfl rfl rfl rfl ?_ | refine AW_eq rfl rfl rfl ?_ | refine AW_nil (fun (h : false = true) => by cases h) ?_ | refine Wp_ret ?_
        exact ⟨.inr rfl, _, .tmp _ _ _ _ rfl .nil, rfl⟩
    · rw [decide_eq_false (by simp [hn])]
      have hE : ((n : Int) == 1) = false := beq_eq_false_iff_ne.2 (by omega)
      repeat first | refine Wp_seq ?_ | refine Wp_region tm_mixed ?_ | refine AW_move rfl rfl ?_ | refine AW_assign rfl rfl ?_ | refine AW_box rfl rfl (row := true) rfl (fun h => by cases h) rfl ?_ | refine AW_fieldAddr rfl tf_mag rfl rfl ?_ | refine AW_load rfl ty_mag rfl rfl rfl rfl ?_ | refine AW_len rfl rfl Tryz.underlying22 ?_ | refine AW_fieldAddrg rfl rfl rfl rfl tf_mag rfl rfl ?_ | refine AW_loadg rfl rfl rfl rfl ty_mag rfl rfl rfl rfl ?_ | refine AW_quietg rfl rfl rfl rfl (q_limbAt (k := 0) rfl rfl (by simp) Tryz.underlying22 ts_limb) ?_ | refine AW_quietg rfl rfl rfl rfl (q_limbLoad rfl ty_limb hx') ?_ | refine AW_quietg rfl rfl rfl rfl (q_eqE rfl rfl hE) ?_ | refine AW_pickT rfl rfl rfl ?_ | refine AW_pickF rfl rfl rfl ?_ | refine AW_skip rfl rfl rfl rfl ?_ | refine AW_eq rfl rfl rfl ?_ | refine AW_nil (fun (h : false = true) => by cases h) ?_ | refine Wp_ret ?_
      exact ⟨.inr rfl, _, .tmp _ _ _ _ rfl .nil, rfl⟩
  · rw [decide_eq_false (fun e => h1 (by have := congrArg (·.2.length) e; exact this))]
    have hE : ((L.length : Int) == 1) = false := beq_eq_false_iff_ne.2 (by omega)
    repeat first | refine Wp_seq ?_ | refine Wp_region tm_mixed ?_ | refine AW_move rfl rfl ?_ | refine AW_assign rfl rfl ?_ | refine AW_box rfl rfl (row := true) rfl (fun h => by cases h) rfl ?_ | refine AW_fieldAddr rfl tf_mag rfl rfl ?_ | refine AW_load rfl ty_mag rfl rfl rfl rfl ?_ | refine AW_len rfl rfl Tryz.underlying22 ?_ | refine AW_quiet rfl (q_eqE rfl rfl hE) ?_ | refine AW_pickF rfl rfl rfl ?_ | refine AW_skip rfl rfl rfl rfl ?_ | refine AW_nil (fun (h : false = true) => by cases h) ?_ | refine Wp_ret ?_
    exact ⟨.inr rfl, _, .tmp _ _ _ _ rfl .nil, rfl⟩
theorem ct_poneT : Ct Tryz.prog 61 [aZ 1] (.val (aB true)) := by
  have h := ct_pone (rawOf 1)
  rwa [decide_eq_true raw_one] at h
theorem ct_poneF (z : Int) (hz : z ≠ 1) : Ct Tryz.prog 61 [aZ z] (.val (aB false)) := by
  have h := ct_pone (rawOf z)
  rwa [decide_eq_false (fun e => hz (rawOf_inj (e.trans raw_one.symm)))] at h
set_option maxHeartbeats 1000000 in
set_option maxRecDepth 100000 in
theorem ct_pInverse (a m : Int) (ha : lc a.natAbs ≤ 90) (hm : lc m.natAbs ≤ 90) (h0 : 0 < m) (h1 : gcdZ a m = 1) : Ct Tryz.prog 16 [aZ a, aZ m] (.tup [zZ (invZ a m), aI 0]) := by
  refine ct_of_wp [.cell 4 24, .tmp 5] [(0, aZ a), (1, aZ m)] 53 Tryz.func16 rfl rfl rfl rfl rfl rfl rfl rfl ?_
  intro G0 w0
  have k1 := ct_Right (rawOf a)
  have k2 := ct_Right (rawOf m)
  rw [right_raw (by omega)] at k1 k2
  have k3 := ct_pmodulus (rawOf m)
  rw [muE_pos h0] at k3
  have k4 := ct_ModP a m (by omega) (by omega) h0
  have hr1 := Int.emod_nonneg a (show m ≠ 0 by omega)
  have hr2 := Int.emod_lt_of_pos a h0
  have lr : lc (a % m).natAbs ≤ 90 := Nat.le_trans (lc_mono (by omega)) hm
  have k5 := ct_gBezout (a % m) m lr hm
  rw [gcdZ_base h0, h1] at k5
  have k6 := ct_poneT
  have lx : lc (bzX (a % m) m).natAbs ≤ 90 := Nat.le_trans (lc_mono (bzX_size (by omega))) hm
  have k7 := ct_ModP (bzX (a % m) m) m (by omega) (by omega) h0
  rw [bz_inv h0 h1] at k7
  repeat first | refine Wp_seq ?_ | refine Wp_region tm_mixed ?_ | refine AW_move rfl rfl ?_ | refine AW_assign rfl rfl ?_ | refine AW_load rfl ty_num rfl rfl rfl rfl ?_ | refine AW_alloc rfl tz_num ?_ | refine AW_box rfl rfl (row := true) rfl (fun h => by cases h) rfl ?_ | refine AW_not rfl rfl ?_ | refine AW_call rfl rfl (by first | exact k1 | exact k2) ?_ | refine AW_pickF rfl rfl rfl ?_ | refine AW_notg rfl rfl rfl rfl rfl ?_ | refine AW_loadg rfl rfl rfl rfl ty_num rfl rfl rfl rfl ?_ | refine AW_callg rfl rfl rfl rfl rfl (by first | exact k1 | exact k2) ?_ | refine AW_nil (fun (h : false = true) => by cases h) ?_
  refine Wp_condF rfl ?_
  repeat first | refine Wp_seq ?_ | refine Wp_region tm_mixed ?_ | refine AW_move rfl rfl ?_ | refine AW_assign rfl rfl ?_ | refine AW_load rfl ty_num rfl rfl rfl rfl ?_ | refine AW_call rfl rfl (by first | exact k3) ?_ | refine AW_ne rfl rfl rfl ?_ | refine AW_nil (fun (h : false = true) => by cases h) ?_ | refine Wp_skip ?_
  refine Wp_condF rfl ?_
  repeat first | refine Wp_seq ?_ | refine Wp_region tm_mixed ?_ | refine AW_move rfl rfl ?_ | refine AW_assign rfl rfl ?_ | refine AW_load rfl ty_num rfl rfl rfl rfl ?_ | refine AW_store ty_num rfl rfl rfl rfl rfl rfl rfl ?_ | refine AW_extract rfl rfl rfl ?_ | refine AW_alloc rfl tz_num ?_ | refine AW_not rfl rfl ?_ | refine AW_call rfl rfl (by first | exact k4 | exact k5 | exact k6) ?_ | refine AW_nil (fun (h : false = true) => by cases h) ?_ | refine Wp_skip ?_
  refine Wp_condF rfl ?_
  repeat first | refine Wp_seq ?_ | refine Wp_region tm_mixed ?_ | refine AW_move rfl rfl ?_ | refine AW_assign rfl rfl ?_ | refine AW_load rfl ty_num rfl rfl rfl rfl ?_ | refine AW_store ty_num rfl rfl rfl rfl rfl rfl rfl ?_ | refine AW_extract rfl rfl rfl ?_ | refine AW_call rfl rfl (by first | exact k7) ?_ | refine AW_nil (fun (h : false = true) => by cases h) ?_ | refine Wp_skip ?_ | refine Wp_ret ?_
  exact ⟨.inr rfl, _, .cell _ _ _ _ _ _ _ _ _ _ _ ty_num rfl rfl rfl (.tmp _ _ _ _ rfl .nil), rfl⟩
set_option maxHeartbeats 1000000 in
set_option maxRecDepth 100000 in
theorem ct_pInverse_none (a m : Int) (ha : lc a.natAbs ≤ 90) (hm : lc m.natAbs ≤ 90) (h0 : 0 < m) (h1 : gcdZ a m ≠ 1) : Ct Tryz.prog 16 [aZ a, aZ m] (.tup [aInt (false, []), aI 310]) := by
  refine ct_of_wp [.cell 4 24, .tmp 5] [(0, aZ a), (1, aZ m)] 53 Tryz.func16 rfl rfl rfl rfl rfl rfl rfl rfl ?_
  intro G0 w0
  have k1 := ct_Right (rawOf a)
  have k2 := ct_Right (rawOf m)
  rw [right_raw (by omega)] at k1 k2
  have k3 := ct_pmodulus (rawOf m)
  rw [muE_pos h0] at k3
  have k4 := ct_ModP a m (by omega) (by omega) h0
  have hr1 := Int.emod_nonneg a (show m ≠ 0 by omega)
  have hr2 := Int.emod_lt_of_pos a h0
  have lr : lc (a % m).natAbs ≤ 90 := Nat.le_trans (lc_mono (by omega)) hm
  have k5 := ct_gBezout (a % m) m lr hm
  rw [gcdZ_base h0] at k5
  have k6 := ct_poneF _ h1
  repeat first | refine Wp_seq ?_ | refine Wp_region tm_mixed ?_ | refine AW_move rfl rfl ?_ | refine AW_assign rfl rfl ?_ | refine AW_load rfl ty_num rfl rfl rfl rfl ?_ | refine AW_alloc rfl tz_num ?_ | refine AW_box rfl rfl (row := true) rfl (fun h => by cases h) rfl ?_ | refine AW_not rfl rfl ?_ | refine AW_call rfl rfl (by first | exact k1 | exact k2) ?_ | refine AW_pickF rfl rfl rfl ?_ | refine AW_notg rfl rfl rfl rfl rfl ?_ | refine AW_loadg rfl rfl rfl rfl ty_num rfl rfl rfl rfl ?_ | refine AW_callg rfl rfl rfl rfl rfl (by first | exact k1 | exact k2) ?_ | refine AW_nil (fun (h : false = true) => by cases h) ?_
  refine Wp_condF rfl ?_
  repeat first | refine Wp_seq ?_ | refine Wp_region tm_mixed ?_ | refine AW_move rfl rfl ?_ | refine AW_assign rfl rfl ?_ | refine AW_load rfl ty_num rfl rfl rfl rfl ?_ | refine AW_call rfl rfl (by first | exact k3) ?_ | refine AW_ne rfl rfl rfl ?_ | refine AW_nil (fun (h : false = true) => by cases h) ?_ | refine Wp_skip ?_
  refine Wp_condF rfl ?_
  repeat first | refine Wp_seq ?_ | refine Wp_region tm_mixed ?_ | refine AW_move rfl rfl ?_ | refine AW_assign rfl rfl ?_ | refine AW_load rfl ty_num rfl rfl rfl rfl ?_ | refine AW_store ty_num rfl rfl rfl rfl rfl rfl rfl ?_ | refine AW_extract rfl rfl rfl ?_ | refine AW_alloc rfl tz_num ?_ | refine AW_not rfl rfl ?_ | refine AW_call rfl rfl (by first | exact k4 | exact k5 | exact k6) ?_ | refine AW_nil (fun (h : false = true) => by cases h) ?_ | refine Wp_skip ?_
  refine Wp_condT rfl ?_
  repeat first | refine Wp_seq ?_ | refine Wp_region tm_mixed ?_ | refine AW_assign rfl rfl ?_ | refine AW_store ty_num rfl rfl rfl rfl rfl rfl rfl ?_ | refine AW_build rfl tb_num rfl ?_ | refine AW_nil (fun (h : false = true) => by cases h) ?_ | refine Wp_ret ?_
  exact ⟨.inr rfl, _, .cell _ _ _ _ _ _ _ _ _ _ _ ty_num rfl rfl rfl (.tmp _ _ _ _ rfl .nil), rfl⟩
set_option maxRecDepth 100000 in
theorem ct_pInverse_mod (x y : Raw) (h : (rightInt x && rightInt y) = true) (e : Int) (he : muE y = e) (hn : (e != 0) = true) : Ct Tryz.prog 16 [aNum x, aNum y] (.tup [aInt (false, []), aI e]) := by
  refine ct_of_wp [.cell 4 24, .tmp 5] [(0, aNum x), (1, aNum y)] 53 Tryz.func16 rfl rfl rfl rfl rfl rfl rfl rfl ?_
  intro G0 w0
  have k1 := ct_Right x
  have k2 := ct_Right y
  rw [Bool.and_eq_true] at h
  rw [h.1] at k1
  rw [h.2] at k2
  have k3 := ct_pmodulus y
  rw [he] at k3
  repeat first | refine Wp_seq ?_ | refine Wp_region tm_mixed ?_ | refine AW_move rfl rfl ?_ | refine AW_assign rfl rfl ?_ | refine AW_load rfl ty_num rfl rfl rfl rfl ?_ | refine AW_alloc rfl tz_num ?_ | refine AW_box rfl rfl (row := true) rfl (fun h => by cases h) rfl ?_ | refine AW_not rfl rfl ?_ | refine AW_call rfl rfl (by first | exact k1 | exact k2) ?_ | refine AW_pickF rfl rfl rfl ?_ | refine AW_notg rfl rfl rfl rfl rfl ?_ | refine AW_loadg rfl rfl rfl rfl ty_num rfl rfl rfl rfl ?_ | refine AW_callg rfl rfl rfl rfl rfl (by first | exact k1 | exact k2) ?_ | refine AW_nil (fun (h : false = true) => by cases h) ?_
  refine Wp_condF rfl ?_
  repeat first | refine Wp_seq ?_ | refine Wp_region tm_mixed ?_ | refine AW_move rfl rfl ?_ | refine AW_assign rfl rfl ?_ | refine AW_load rfl ty_num rfl rfl rfl rfl ?_ | refine AW_call rfl rfl (by first | exact k3) ?_ | refine AW_quiet rfl (q_neE rfl rfl hn) ?_ | refine AW_nil (fun (h : false = true) => by cases h) ?_ | refine Wp_skip ?_
  refine Wp_condT rfl ?_
  repeat first | refine Wp_seq ?_ | refine Wp_region tm_mixed ?_ | refine AW_move rfl rfl ?_ | refine AW_assign rfl rfl ?_ | refine AW_store ty_num rfl rfl rfl rfl rfl rfl rfl ?_ | refine AW_build rfl tb_num rfl ?_ | refine AW_nil (fun (h : false = true) => by cases h) ?_ | refine Wp_ret ?_
  exact ⟨.inr rfl, _, .cell _ _ _ _ _ _ _ _ _ _ _ ty_num rfl rfl rfl (.tmp _ _ _ _ rfl .nil), rfl⟩
set_option maxRecDepth 100000 in
theorem ct_pInverse_bad (x y : Raw) (h : (rightInt x && rightInt y) = false) : Ct Tryz.prog 16 [aNum x, aNum y] (.tup [aInt (false, []), aI 2]) := by
  refine ct_of_wp [.cell 4 24, .tmp 5] [(0, aNum x), (1, aNum y)] 53 Tryz.func16 rfl rfl rfl rfl rfl rfl rfl rfl ?_
  intro G0 w0
  have k1 := ct_Right x
  have k2 := ct_Right y
  cases hx : rightInt x with
  | false =>
    rw [hx] at k1
    repeat first | refine Wp_seq ?_ | refine Wp_region tm_mixed ?_ | refine AW_move rfl rfl ?_ | refine AW_assign rfl rfl ?_ | refine AW_load rfl ty_num rfl rfl rfl rfl ?_ | refine AW_alloc rfl tz_num ?_ | refine AW_box rfl rfl (row := true) rfl (fun h => by cases h) rfl ?_ | refine AW_not rfl rfl ?_ | refine AW_call rfl rfl (by first | exact k1) ?_ | refine AW_pickT rfl rfl rfl ?_ | refine AW_skip rfl rfl rfl rfl ?_ | refine AW_nil (fun (h : false = true) => by cases h) ?_
    refine Wp_condT rfl ?_
    repeat first | refine Wp_seq ?_ | refine Wp_region tm_mixed ?_ | refine AW_assign rfl rfl ?_ | refine AW_store ty_num rfl rfl rfl rfl rfl rfl rfl ?_ | refine AW_build rfl tb_num rfl ?_ | refine AW_nil (fun (h : false = true) => by cases h) ?_ | refine Wp_ret ?_
    exact ⟨.inr rfl, _, .cell _ _ _ _ _ _ _ _ _ _ _ ty_num rfl rfl rfl (.tmp _ _ _ _ rfl .nil), rfl⟩
  | true =>
    rw [hx] at k1 h
    rw [show rightInt y = false from h] at k2
    repeat first | refine Wp_seq ?_ | refine Wp_region tm_mixed ?_ | refine AW_move rfl rfl ?_ | refine AW_assign rfl rfl ?_ | refine AW_load rfl ty_num rfl rfl rfl rfl ?_ | refine AW_alloc rfl tz_num ?_ | refine AW_box rfl rfl (row := true) rfl (fun h => by cases h) rfl ?_ | refine AW_not rfl rfl ?_ | refine AW_call rfl rfl (by first | exact k1 | exact k2) ?_ | refine AW_pickF rfl rfl rfl ?_ | refine AW_notg rfl rfl rfl rfl rfl ?_ | refine AW_loadg rfl rfl rfl rfl ty_num rfl rfl rfl rfl ?_ | refine AW_callg rfl rfl rfl rfl rfl (by first | exact k1 | exact k2) ?_ | refine AW_nil (fun (h : false = true) => by cases h) ?_
    refine Wp_condT rfl ?_
    repeat first | refine Wp_seq ?_ | refine Wp_region tm_mixed ?_ | refine AW_assign rfl rfl ?_ | refine AW_store ty_num rfl rfl rfl rfl rfl rfl rfl ?_ | refine AW_build rfl tb_num rfl ?_ | refine AW_nil (fun (h : false = true) => by cases h) ?_ | refine Wp_ret ?_
    exact ⟨.inr rfl, _, .cell _ _ _ _ _ _ _ _ _ _ _ ty_num rfl rfl rfl (.tmp _ _ _ _ rfl .nil), rfl⟩
set_option maxHeartbeats 1000000 in
set_option maxRecDepth 100000 in
theorem ct_pMod (a e m : Int) (ha : lc a.natAbs ≤ 90) (he : lc e.natAbs ≤ 4096) (hm : lc m.natAbs ≤ 90) (h0 : 0 < m) (h1 : 0 ≤ e ∨ gcdZ a m = 1) : Ct Tryz.prog 14 [aZ a, aZ e, aZ m] (.tup [zZ (powE a e m), aI 0]) := by
  refine ct_of_wp [.cell 6 24, .tmp 7] [(0, aZ a), (1, aZ e), (2, aZ m)] 55 Tryz.func14 rfl rfl rfl rfl rfl rfl rfl rfl ?_
  intro G0 w0
  have k1 := ct_Right (rawOf a)
  have k2 := ct_Right (rawOf e)
  have k3 := ct_Right (rawOf m)
  rw [right_raw (by omega)] at k1 k2 k3
  have k4 := ct_pmodulus (rawOf m)
  rw [muE_pos h0] at k4
  have k5 := ct_ModP a m (by omega) (by omega) h0
  have hr1 := Int.emod_nonneg a (show m ≠ 0 by omega)
  have hr2 := Int.emod_lt_of_pos a h0
  have lr : lc (a % m).natAbs ≤ 90 := Nat.le_trans (lc_mono (by omega)) hm
  repeat first | refine Wp_seq ?_ | refine Wp_region tm_mixed ?_ | refine AW_move rfl rfl ?_ | refine AW_assign rfl rfl ?_ | refine AW_load rfl ty_num rfl rfl rfl rfl ?_ | refine AW_alloc rfl tz_num ?_ | refine AW_box rfl rfl (row := true) rfl (fun h => by cases h) rfl ?_ | refine AW_not rfl rfl ?_ | refine AW_call rfl rfl (by first | exact k1 | exact k2 | exact k3) ?_ | refine AW_pickF rfl rfl rfl ?_ | refine AW_notg rfl rfl rfl rfl rfl ?_ | refine AW_loadg rfl rfl rfl rfl ty_num rfl rfl rfl rfl ?_ | refine AW_callg rfl rfl rfl rfl rfl (by first | exact k1 | exact k2 | exact k3) ?_ | refine AW_nil (fun (h : false = true) => by cases h) ?_
  refine Wp_condF rfl ?_
  repeat first | refine Wp_seq ?_ | refine Wp_region tm_mixed ?_ | refine AW_move rfl rfl ?_ | refine AW_assign rfl rfl ?_ | refine AW_load rfl ty_num rfl rfl rfl rfl ?_ | refine AW_call rfl rfl (by first | exact k4) ?_ | refine AW_ne rfl rfl rfl ?_ | refine AW_nil (fun (h : false = true) => by cases h) ?_ | refine Wp_skip ?_
  refine Wp_condF rfl ?_
  repeat first | refine Wp_seq ?_ | refine Wp_region tm_mixed ?_ | refine AW_move rfl rfl ?_ | refine AW_assign rfl rfl ?_ | refine AW_load rfl ty_num rfl rfl rfl rfl ?_ | refine AW_store ty_num rfl rfl rfl rfl rfl rfl rfl ?_ | refine AW_extract rfl rfl rfl ?_ | refine AW_alloc rfl tz_num ?_ | refine AW_call rfl rfl (by first | exact k5) ?_ | refine AW_fieldAddr rfl tf_neg rfl rfl ?_ | refine AW_load rfl ty_bool rfl rfl rfl rfl ?_ | refine AW_nil (fun (h : false = true) => by cases h) ?_ | refine Wp_skip ?_
  refine Wp_cond rfl (fun hc => ?_) (fun hc => ?_)
  · have hneg : e < 0 := of_decide_eq_true hc
    have hg : gcdZ a m = 1 := by omega
    have k6 := ct_pInverse a m ha hm h0 hg
    have k7 := ct_power (invZ a m) m e.natAbs (by obtain ⟨i0, i1, _⟩ := invZ_spec a m h0; exact Nat.le_trans (lc_mono (by omega)) hm) hm h0 he
    have e2 : powE a e m = invZ a m ^ e.natAbs % m := by unfold powE; rw [if_pos hneg]
    rw [← e2] at k7
    unfold aZ at k7
    rw [abs_raw] at k7
    repeat first | refine Wp_seq ?_ | refine Wp_region tm_mixed ?_ | refine AW_move rfl rfl ?_ | refine AW_assign rfl rfl ?_ | refine AW_load rfl ty_num rfl rfl rfl rfl ?_ | refine AW_store ty_num rfl rfl rfl rfl rfl rfl rfl ?_ | refine AW_extract rfl rfl rfl ?_ | refine AW_call rfl rfl (by first | exact k6) ?_ | refine AW_ne rfl rfl rfl ?_ | refine AW_nil (fun (h : false = true) => by cases h) ?_
    refine Wp_condF rfl ?_
    repeat first | refine Wp_seq ?_ | refine Wp_region tm_mixed ?_ | refine AW_assign rfl rfl ?_ | refine AW_load rfl ty_num rfl rfl rfl rfl ?_ | refine AW_store ty_num rfl rfl rfl rfl rfl rfl rfl ?_ | refine AW_call rfl rfl (by first | exact k7) ?_ | refine AW_fieldAddr rfl tf_neg rfl rfl ?_ | refine AW_store1 ty_bool rfl rfl rfl rfl rfl ?_ | refine AW_nil (fun (h : false = true) => by cases h) ?_ | refine Wp_skip ?_ | refine Wp_ret ?_
    exact ⟨.inr rfl, _, .cell _ _ _ _ _ _ _ _ _ _ _ ty_num rfl rfl rfl (.tmp _ _ _ _ rfl .nil), rfl⟩
  · have hneg : 0 ≤ e := by have := of_decide_eq_false (show decide (e < 0) = false from hc); omega
    have k7 := ct_power (a % m) m e.natAbs lr hm h0 he
    have e2 : powE a e m = (a % m) ^ e.natAbs % m := by unfold powE; rw [if_neg (by omega)]
    rw [← e2, show (e.natAbs : Int) = e by omega] at k7
    repeat first | refine Wp_seq ?_ | refine Wp_region tm_mixed ?_ | refine AW_assign rfl rfl ?_ | refine AW_load rfl ty_num rfl rfl rfl rfl ?_ | refine AW_store ty_num rfl rfl rfl rfl rfl rfl rfl ?_ | refine AW_call rfl rfl (by first | exact k7) ?_ | refine AW_nil (fun (h : false = true) => by cases h) ?_ | refine Wp_skip ?_ | refine Wp_ret ?_
    exact ⟨.inr rfl, _, .cell _ _ _ _ _ _ _ _ _ _ _ ty_num rfl rfl rfl (.tmp _ _ _ _ rfl .nil), rfl⟩
set_option maxHeartbeats 1000000 in
set_option maxRecDepth 100000 in
theorem ct_pMod_none (a e m : Int) (ha : lc a.natAbs ≤ 90) (he : lc e.natAbs ≤ 4096) (hm : lc m.natAbs ≤ 90) (h0 : 0 < m) (hneg : e < 0) (h1 : gcdZ a m ≠ 1) : Ct Tryz.prog 14 [aZ a, aZ e, aZ m] (.tup [aInt (false, []), aI 310]) := by
  refine ct_of_wp [.cell 6 24, .tmp 7] [(0, aZ a), (1, aZ e), (2, aZ m)] 55 Tryz.func14 rfl rfl rfl rfl rfl rfl rfl rfl ?_
  intro G0 w0
  have k1 := ct_Right (rawOf a)
  have k2 := ct_Right (rawOf e)
  have k3 := ct_Right (rawOf m)
  rw [right_raw (by omega)] at k1 k2 k3
  have k4 := ct_pmodulus (rawOf m)
  rw [muE_pos h0] at k4
  have k5 := ct_ModP a m (by omega) (by omega) h0
  repeat first | refine Wp_seq ?_ | refine Wp_region tm_mixed ?_ | refine AW_move rfl rfl ?_ | refine AW_assign rfl rfl ?_ | refine AW_load rfl ty_num rfl rfl rfl rfl ?_ | refine AW_alloc rfl tz_num ?_ | refine AW_box rfl rfl (row := true) rfl (fun h => by cases h) rfl ?_ | refine AW_not rfl rfl ?_ | refine AW_call rfl rfl (by first | exact k1 | exact k2 | exact k3) ?_ | refine AW_pickF rfl rfl rfl ?_ | refine AW_notg rfl rfl rfl rfl rfl ?_ | refine AW_loadg rfl rfl rfl rfl ty_num rfl rfl rfl rfl ?_ | refine AW_callg rfl rfl rfl rfl rfl (by first | exact k1 | exact k2 | exact k3) ?_ | refine AW_nil (fun (h : false = true) => by cases h) ?_
  refine Wp_condF rfl ?_
  repeat first | refine Wp_seq ?_ | refine Wp_region tm_mixed ?_ | refine AW_move rfl rfl ?_ | refine AW_assign rfl rfl ?_ | refine AW_load rfl ty_num rfl rfl rfl rfl ?_ | refine AW_call rfl rfl (by first | exact k4) ?_ | refine AW_ne rfl rfl rfl ?_ | refine AW_nil (fun (h : false = true) => by cases h) ?_ | refine Wp_skip ?_
  refine Wp_condF rfl ?_
  repeat first | refine Wp_seq ?_ | refine Wp_region tm_mixed ?_ | refine AW_move rfl rfl ?_ | refine AW_assign rfl rfl ?_ | refine AW_load rfl ty_num rfl rfl rfl rfl ?_ | refine AW_store ty_num rfl rfl rfl rfl rfl rfl rfl ?_ | refine AW_extract rfl rfl rfl ?_ | refine AW_alloc rfl tz_num ?_ | refine AW_call rfl rfl (by first | exact k5) ?_ | refine AW_fieldAddr rfl tf_neg rfl rfl ?_ | refine AW_load rfl ty_bool rfl rfl rfl rfl ?_ | refine AW_nil (fun (h : false = true) => by cases h) ?_ | refine Wp_skip ?_
  refine Wp_cond rfl (fun hc => ?_) (fun hc => ?_)
  · have k6 := ct_pInverse_none a m ha hm h0 h1
    repeat first | refine Wp_seq ?_ | refine Wp_region tm_mixed ?_ | refine AW_move rfl rfl ?_ | refine AW_assign rfl rfl ?_ | refine AW_load rfl ty_num rfl rfl rfl rfl ?_ | refine AW_store ty_num rfl rfl rfl rfl rfl rfl rfl ?_ | refine AW_extract rfl rfl rfl ?_ | refine AW_call rfl rfl (by first | exact k6) ?_ | refine AW_ne rfl rfl rfl ?_ | refine AW_nil (fun (h : false = true) => by cases h) ?_
    refine Wp_condT rfl ?_
    repeat first | refine Wp_seq ?_ | refine Wp_region tm_mixed ?_ | refine AW_move rfl rfl ?_ | refine AW_assign rfl rfl ?_ | refine AW_store ty_num rfl rfl rfl rfl rfl rfl rfl ?_ | refine AW_build rfl tb_num rfl ?_ | refine AW_nil (fun (h : false = true) => by cases h) ?_ | refine Wp_ret ?_
    exact ⟨.inr rfl, _, .cell _ _ _ _ _ _ _ _ _ _ _ ty_num rfl rfl rfl (.tmp _ _ _ _ rfl .nil), rfl⟩
  · exact absurd (show decide (e < 0) = false from hc) (by rw [decide_eq_true hneg]; decide)
set_option maxRecDepth 100000 in
theorem ct_pMod_mod (x z y : Raw) (h : (rightInt x && rightInt z && rightInt y) = true) (e : Int) (he : muE y = e) (hn : (e != 0) = true) : Ct Tryz.prog 14 [aNum x, aNum z, aNum y] (.tup [aInt (false, []), aI e]) := by
  refine ct_of_wp [.cell 6 24, .tmp 7] [(0, aNum x), (1, aNum z), (2, aNum y)] 55 Tryz.func14 rfl rfl rfl rfl rfl rfl rfl rfl ?_
  intro G0 w0
  have k1 := ct_Right x
  have k2 := ct_Right z
  have k3 := ct_Right y
  rw [Bool.and_eq_true, Bool.and_eq_true] at h
  rw [h.1.1] at k1
  rw [h.1.2] at k2
  rw [h.2] at k3
  have k4 := ct_pmodulus y
  rw [he] at k4
  repeat first | refine Wp_seq ?_ | refine Wp_region tm_mixed ?_ | refine AW_move rfl rfl ?_ | refine AW_assign rfl rfl ?_ | refine AW_load rfl ty_num rfl rfl rfl rfl ?_ | refine AW_alloc rfl tz_num ?_ | refine AW_box rfl rfl (row := true) rfl (fun h => by cases h) rfl ?_ | refine AW_not rfl rfl ?_ | refine AW_call rfl rfl (by first | exact k1 | exact k2 | exact k3) ?_ | refine AW_pickF rfl rfl rfl ?_ | refine AW_notg rfl rfl rfl rfl rfl ?_ | refine AW_loadg rfl rfl rfl rfl ty_num rfl rfl rfl rfl ?_ | refine AW_callg rfl rfl rfl rfl rfl (by first | exact k1 | exact k2 | exact k3) ?_ | refine AW_nil (fun (h : false = true) => by cases h) ?_
  refine Wp_condF rfl ?_
  repeat first | refine Wp_seq ?_ | refine Wp_region tm_mixed ?_ | refine AW_move rfl rfl ?_ | refine AW_assign rfl rfl ?_ | refine AW_load rfl ty_num rfl rfl rfl rfl ?_ | refine AW_call rfl rfl (by first | exact k4) ?_ | refine AW_quiet rfl (q_neE rfl rfl hn) ?_ | refine AW_nil (fun (h : false = true) => by cases h) ?_ | refine Wp_skip ?_
  refine Wp_condT rfl ?_
  repeat first | refine Wp_seq ?_ | refine Wp_region tm_mixed ?_ | refine AW_move rfl rfl ?_ | refine AW_assign rfl rfl ?_ | refine AW_store ty_num rfl rfl rfl rfl rfl rfl rfl ?_ | refine AW_build rfl tb_num rfl ?_ | refine AW_nil (fun (h : false = true) => by cases h) ?_ | refine Wp_ret ?_
  exact ⟨.inr rfl, _, .cell _ _ _ _ _ _ _ _ _ _ _ ty_num rfl rfl rfl (.tmp _ _ _ _ rfl .nil), rfl⟩
set_option maxRecDepth 100000 in
theorem ct_pMod_bad (x z y : Raw) (h : (rightInt x && rightInt z && rightInt y) = false) : Ct Tryz.prog 14 [aNum x, aNum z, aNum y] (.tup [aInt (false, []), aI 2]) := by
  refine ct_of_wp [.cell 6 24, .tmp 7] [(0, aNum x), (1, aNum z), (2, aNum y)] 55 Tryz.func14 rfl rfl rfl rfl rfl rfl rfl rfl ?_
  intro G0 w0
  have k1 := ct_Right x
  have k2 := ct_Right z
  have k3 := ct_Right y
  cases hx : rightInt x with
  | false =>
    rw [hx] at k1
    repeat first | refine Wp_seq ?_ | refine Wp_region tm_mixed ?_ | refine AW_move rfl rfl ?_ | refine AW_assign rfl rfl ?_ | refine AW_load rfl ty_num rfl rfl rfl rfl ?_ | refine AW_alloc rfl tz_num ?_ | refine AW_box rfl rfl (row := true) rfl (fun h => by cases h) rfl ?_ | refine AW_not rfl rfl ?_ | refine AW_call rfl rfl (by first | exact k1) ?_ | refine AW_pickT rfl rfl rfl ?_ | refine AW_skip rfl rfl rfl rfl ?_ | refine AW_nil (fun (h : false = true) => by cases h) ?_
    refine Wp_condT rfl ?_
    repeat first | refine Wp_seq ?_ | refine Wp_region tm_mixed ?_ | refine AW_assign rfl rfl ?_ | refine AW_store ty_num rfl rfl rfl rfl rfl rfl rfl ?_ | refine AW_build rfl tb_num rfl ?_ | refine AW_nil (fun (h : false = true) => by cases h) ?_ | refine Wp_ret ?_
    exact ⟨.inr rfl, _, .cell _ _ _ _ _ _ _ _ _ _ _ ty_num rfl rfl rfl (.tmp _ _ _ _ rfl .nil), rfl⟩
  | true =>
    rw [hx] at k1
    cases hz : rightInt z with
    | false =>
      rw [hz] at k2
      repeat first | refine Wp_seq ?_ | refine Wp_region tm_mixed ?_ | refine AW_move rfl rfl ?_ | refine AW_assign rfl rfl ?_ | refine AW_load rfl ty_num rfl rfl rfl rfl ?_ | refine AW_alloc rfl tz_num ?_ | refine AW_box rfl rfl (row := true) rfl (fun h => by cases h) rfl ?_ | refine AW_not rfl rfl ?_ | refine AW_call rfl rfl (by first | exact k1 | exact k2) ?_ | refine AW_pickT rfl rfl rfl ?_ | refine AW_pickF rfl rfl rfl ?_ | refine AW_skip rfl rfl rfl rfl ?_ | refine AW_notg rfl rfl rfl rfl rfl ?_ | refine AW_loadg rfl rfl rfl rfl ty_num rfl rfl rfl rfl ?_ | refine AW_callg rfl rfl rfl rfl rfl (by first | exact k1 | exact k2) ?_ | refine AW_nil (fun (h : false = true) => by cases h) ?_
      refine Wp_condT rfl ?_
      repeat first | refine Wp_seq ?_ | refine Wp_region tm_mixed ?_ | refine AW_assign rfl rfl ?_ | refine AW_store ty_num rfl rfl rfl rfl rfl rfl rfl ?_ | refine AW_build rfl tb_num rfl ?_ | refine AW_nil (fun (h : false = true) => by cases h) ?_ | refine Wp_ret ?_
      exact ⟨.inr rfl, _, .cell _ _ _ _ _ _ _ _ _ _ _ ty_num rfl rfl rfl (.tmp _ _ _ _ rfl .nil), rfl⟩
    | true =>
      rw [hz] at k2
      rw [hx, hz] at h
      rw [show rightInt y = false from h] at k3
      repeat first | refine Wp_seq ?_ | refine Wp_region tm_mixed ?_ | refine AW_move rfl rfl ?_ | refine AW_assign rfl rfl ?_ | refine AW_load rfl ty_num rfl rfl rfl rfl ?_ | refine AW_alloc rfl tz_num ?_ | refine AW_box rfl rfl (row := true) rfl (fun h => by cases h) rfl ?_ | refine AW_not rfl rfl ?_ | refine AW_call rfl rfl (by first | exact k1 | exact k2 | exact k3) ?_ | refine AW_pickF rfl rfl rfl ?_ | refine AW_notg rfl rfl rfl rfl rfl ?_ | refine AW_loadg rfl rfl rfl rfl ty_num rfl rfl rfl rfl ?_ | refine AW_callg rfl rfl rfl rfl rfl (by first | exact k1 | exact k2 | exact k3) ?_ | refine AW_nil (fun (h : false = true) => by cases h) ?_
      refine Wp_condT rfl ?_
      repeat first | refine Wp_seq ?_ | refine Wp_region tm_mixed ?_ | refine AW_assign rfl rfl ?_ | refine AW_store ty_num rfl rfl rfl rfl rfl rfl rfl ?_ | refine AW_build rfl tb_num rfl ?_ | refine AW_nil (fun (h : false = true) => by cases h) ?_ | refine Wp_ret ?_
      exact ⟨.inr rfl, _, .cell _ _ _ _ _ _ _ _ _ _ _ ty_num rfl rfl rfl (.tmp _ _ _ _ rfl .nil), rfl⟩
end Go.Proofs.YtjbagikfogejnaaGreatDoor
/- Powers modulo a number: sums of exponents; small primes and moduli, all of them; plain facts. -/
namespace Go.Proofs.YtjbagikfogejnaaGreatDoor
theorem inv_spec1 {a m : Int} (hm : 0 < m) (h1 : gcdZ a m = 1) : ∃ c, a * invZ a m = 1 + m * c := by
  obtain ⟨_, _, c, hc⟩ := invZ_spec a m hm
  rw [h1] at hc
  exact ⟨c, by omega⟩
theorem inv_pow {a x m : Int} {c : Int} (h : a * x = 1 + m * c) (b : Int) (n : Nat) : (b * (a ^ n * x ^ n)) % m = b % m := by
  induction n with
  | zero => simp
  | succ n ih =>
    rw [Int.pow_succ, Int.pow_succ]
    have e : b * (a ^ n * a * (x ^ n * x)) = b * (a ^ n * x ^ n) + m * (c * (b * (a ^ n * x ^ n))) := by
      have : b * (a ^ n * a * (x ^ n * x)) = b * (a ^ n * x ^ n) * (a * x) := by grind
      rw [this, h]
      grind
    rw [e, Int.add_mul_emod_self_left, ih]
/-- What is raised. -/
def powB (a e m : Int) : Int := if e < 0 then invZ a m ^ e.natAbs else a ^ e.natAbs
theorem powE_eq (a e m : Int) : powE a e m = powB a e m % m := by
  unfold powE powB
  split
  · rfl
  · exact pow_base a m _
theorem powB_add {a e f m : Int} (hm : 0 < m) (h : (0 ≤ e ∧ 0 ≤ f) ∨ gcdZ a m = 1) : powB a (e + f) m % m = (powB a e m * powB a f m) % m := by
  by_cases he : 0 ≤ e
  · by_cases hf : 0 ≤ f
    · unfold powB
      rw [if_neg (by omega), if_neg (by omega), if_neg (by omega), show (e + f).natAbs = e.natAbs + f.natAbs by omega, Int.pow_add]
    · have h1 : gcdZ a m = 1 := by omega
      obtain ⟨c, hc⟩ := inv_spec1 hm h1
      unfold powB
      by_cases hs : 0 ≤ e + f
      · rw [if_neg (by omega), if_neg (by omega), if_pos (by omega), show e.natAbs = (e + f).natAbs + f.natAbs by omega, Int.pow_add, Int.mul_assoc, inv_pow hc]
      · rw [if_pos (by omega), if_neg (by omega), if_pos (by omega), show f.natAbs = (e + f).natAbs + e.natAbs by omega, Int.pow_add]
        rw [show a ^ e.natAbs * (invZ a m ^ (e + f).natAbs * invZ a m ^ e.natAbs) = invZ a m ^ (e + f).natAbs * (a ^ e.natAbs * invZ a m ^ e.natAbs) by grind, inv_pow hc]
  · have h1 : gcdZ a m = 1 := by omega
    obtain ⟨c, hc⟩ := inv_spec1 hm h1
    by_cases hf : 0 ≤ f
    · unfold powB
      by_cases hs : 0 ≤ e + f
      · rw [if_neg (by omega), if_pos (by omega), if_neg (by omega), show f.natAbs = (e + f).natAbs + e.natAbs by omega, Int.pow_add]
        rw [show invZ a m ^ e.natAbs * (a ^ (e + f).natAbs * a ^ e.natAbs) = a ^ (e + f).natAbs * (a ^ e.natAbs * invZ a m ^ e.natAbs) by grind, inv_pow hc]
      · rw [if_pos (by omega), if_pos (by omega), if_neg (by omega), show e.natAbs = (e + f).natAbs + f.natAbs by omega, Int.pow_add]
        rw [show invZ a m ^ (e + f).natAbs * invZ a m ^ f.natAbs * a ^ f.natAbs = invZ a m ^ (e + f).natAbs * (a ^ f.natAbs * invZ a m ^ f.natAbs) by grind, inv_pow hc]
    · unfold powB
      rw [if_pos (by omega), if_pos (by omega), if_pos (by omega), show (e + f).natAbs = e.natAbs + f.natAbs by omega, Int.pow_add]
theorem powE_add {a e f m : Int} (hm : 0 < m) (h : (0 ≤ e ∧ 0 ≤ f) ∨ gcdZ a m = 1) : (powE a (e + f) m - powE a e m * powE a f m) % m = 0 := by
  rw [powE_eq, powE_eq, powE_eq]
  refine (Int.emod_eq_emod_iff_emod_sub_eq_zero).1 ?_
  rw [Int.emod_emod, ← Int.mul_emod, powB_add hm h]
theorem powE_in {a e m : Int} (hm : 0 < m) : 0 ≤ powE a e m ∧ powE a e m < m := by
  rw [powE_eq]
  exact ⟨Int.emod_nonneg _ (by omega), Int.emod_lt_of_pos _ hm⟩
theorem inv_like {a m : Int} (hm : 0 < m) (h1 : gcdZ a m = 1) : (a * invZ a m - 1) % m = 0 := by
  obtain ⟨c, hc⟩ := inv_spec1 hm h1
  rw [hc, show 1 + m * c - 1 = m * c by omega, Int.mul_emod_right]
/-- Small primes. -/
def somePrimes : List Nat := [3, 5, 7, 11, 13, 17, 19, 23, 29, 31, 37, 41, 43, 97, 101]
/-- Is n a square modulo p, of a number below k? -/
def sqB (p n : Nat) : Nat → Bool
  | 0 => false
  | k + 1 => sqB p n k || (k * k % p == n)
def sqWant (p n : Nat) : Int := if n = 0 then 0 else if sqB p n p then 1 else -1
def eulWant (p n : Nat) : Int := if n ^ ((p - 1) / 2) % p = 1 then 1 else if n ^ ((p - 1) / 2) % p = p - 1 then -1 else 0
/-- The least power alike 1, from k on, within so many. -/
def leastF (n m : Nat) : Nat → Nat → Nat
  | 0, k => k
  | d + 1, k => if n ^ k % m = 1 % m then k else leastF n m d (k + 1)
def isN (n m : Nat) (k : Nat) : Bool := decide (n ^ k % m = 1 % m)
def fourP : List (Nat × Nat) := [(2, 4), (3, 3), (5, 1), (7, 1)]
theorem least_all : ∀ m, m < 51 → ∀ n, n < m → isN n m 15120 = true → leastF n m 50 1 = downs (isN n m) fourP 15120 ∧ n ^ leastF n m 50 1 % m = 1 % m := by decide +kernel
theorem isZ_nat (n m k : Nat) : isZ (n : Int) (m : Int) k = isN n m k := by
  unfold isZ isN
  have : ((n : Int) ^ k % (m : Int) = 1 % (m : Int)) ↔ n ^ k % m = 1 % m := by
    constructor
    · intro h
      have : ((n ^ k % m : Nat) : Int) = ((1 % m : Nat) : Int) := by
        rw [Int.natCast_emod, Int.natCast_emod, Int.natCast_pow]; exact h
      omega
    · intro h
      have := congrArg (Nat.cast (R := Int)) h
      rw [Int.natCast_emod, Int.natCast_emod, Int.natCast_pow] at this
      exact this
  exact decide_eq_decide.2 this
end Go.Proofs.YtjbagikfogejnaaGreatDoor
/- The package power, by the abstract machine: lists, whole, orders. -/
namespace Go.Proofs.YtjbagikfogejnaaGreatDoor
open Go.RowKit Go.Deep
/-- Lists of primes and powers, as they are handed in. -/
def psR (l : List (Nat × Nat)) : List Raw := l.map fun q => rawOf (q.1 : Int)
def ksI (l : List (Nat × Nat)) : List Int := l.map fun q => (q.2 : Int)
theorem psR_len (l : List (Nat × Nat)) : (psR l).length = l.length := by simp [psR]
theorem ksI_len (l : List (Nat × Nat)) : (ksI l).length = l.length := by simp [ksI]
theorem psR_at {l : List (Nat × Nat)} {i : Nat} {q : Nat × Nat} (h : l[i]? = some q) : (psR l)[i]? = some (rawOf (q.1 : Int)) := by simp [psR, h]
theorem ksI_at {l : List (Nat × Nat)} {i : Nat} {q : Nat × Nat} (h : l[i]? = some q) : (ksI l)[i]? = some (q.2 : Int) := by simp [ksI, h]
theorem tu_ints : Tryz.prog.underlying 36 = some (.slice 3) := by kernel_rfl
theorem ts_int : (Tryz.prog.info? 3).map (·.size) = some 1 := by kernel_rfl
theorem lt_facts {k : Nat} (h : k ≤ 1000000) : IntKind.i64.wrap ((k : Int) + 1) = ((k + 1 : Nat) : Int) := wrap_succ (by omega)
set_option maxHeartbeats 1000000 in
set_option maxRecDepth 100000 in
theorem ct_whole (l : List (Nat × Nat)) (h2 : ∀ q ∈ l, 0 < q.1) (h64 : ∀ q ∈ l, q.2 ≤ 1000) (hl : l.length ≤ 1000) (hW : lc (wholeP l) ≤ 1000) : Ct Tryz.prog 71 [.val (.one (.st (polyP (psR l)))), .val (.one (.st (intsP (ksI l))))] (.tup [zZ (wholeP l : Int), aI 0]) := by
  refine ct_of_wp [.cell 4 24, .tmp 5] [(0, .val (.one (.st (polyP (psR l))))), (1, .val (.one (.st (intsP (ksI l)))))] 37 Tryz.func71 rfl rfl rfl rfl rfl rfl rfl rfl ?_
  intro G0 w0
  have k1 := ct_limbOf 1 (by decide) (by decide)
  repeat first | refine Wp_seq ?_ | refine Wp_region tm_mixed ?_ | refine AW_move rfl rfl ?_ | refine AW_assign rfl rfl ?_ | refine AW_store ty_num rfl rfl rfl rfl rfl rfl rfl ?_ | refine AW_alloc rfl tz_num ?_ | refine AW_call rfl rfl (by first | exact k1) ?_ | refine AW_quiet rfl (q_lenPoly rfl rfl tu_nums) ?_ | refine AW_nil (fun (h : false = true) => by cases h) ?_ | refine Wp_block ?_
  rw [psR_len]
  refine Wp_loop (fun i : Nat => ⟨[(1, .val (.one (.st (intsP (ksI l))))), (4, .val (.one (.ptr 0 0))), (5, .val (aI 0)), (6, .val (.one (.ptr 1 0))), (11, .val (.one (.st (polyP (psR l))))), (12, .val (aI (l.length : Int))), (13, .val (aI (i : Int)))],
    [(0, 24, [.b false, .st (magP [])]), (1, 24, [.b (rawOf (wholeP (l.take i) : Int)).1, .st (magP (rawOf (wholeP (l.take i) : Int)).2)])], 2⟩) (fun i => i ≤ l.length) (fun i => l.length - i) 0 (Nat.zero_le _) (le_of ⟨rfl, rfl, rfl, rfl, rfl, rfl, rfl, trivial⟩ ⟨rfl, rfl, trivial⟩ rfl) ?_
  intro i hi
  repeat first | refine Wp_seq ?_ | refine Wp_region tm_mixed ?_ | refine AW_quiet rfl (q_lt rfl rfl) ?_ | refine AW_nil (fun (h : false = true) => by cases h) ?_
  refine Wp_cond rfl (fun hc => ?_) (fun hc => ?_)
  · have hlt : i < l.length := by have := of_decide_eq_true hc; omega
    obtain ⟨q, hq⟩ : ∃ q, l[i]? = some q := ⟨_, List.getElem?_eq_getElem hlt⟩
    have hp := psR_at hq
    have hk := ksI_at hq
    have hq64 := h64 q (List.mem_of_getElem? hq)
    repeat first | refine Wp_seq ?_ | refine Wp_region tm_mixed ?_ | refine AW_move rfl rfl ?_ | refine AW_assign rfl rfl ?_ | refine AW_store ty_num rfl rfl rfl rfl rfl rfl rfl ?_ | refine AW_alloc rfl tz_num ?_ | refine AW_quiet rfl (q_polyAt rfl rfl hp tu_nums ts_num) ?_ | refine AW_quiet rfl (q_loadP rfl ty_num) ?_ | refine AW_quiet rfl (q_intAt rfl rfl hk tu_ints ts_int) ?_ | refine AW_quiet rfl (q_intLoad rfl ty_int) ?_ | refine AW_nil (fun (h : false = true) => by cases h) ?_ | refine Wp_block ?_ | refine Wp_skip ?_
    refine Wp_loop (fun k : Nat => ⟨[(1, .val (.one (.st (intsP (ksI l))))), (4, .val (.one (.ptr 0 0))), (5, .val (aI 0)), (6, .val (.one (.ptr 1 0))), (8, .val (.one (.ptr 2 0))), (11, .val (.one (.st (polyP (psR l))))), (12, .val (aI (l.length : Int))), (13, .val (aI (i : Int))), (21, .val (aI (q.2 : Int))), (22, .val (aI (k : Int)))],
      [(0, 24, [.b false, .st (magP [])]), (1, 24, [.b (rawOf ((wholeP (l.take i) * q.1 ^ k : Nat) : Int)).1, .st (magP (rawOf ((wholeP (l.take i) * q.1 ^ k : Nat) : Int)).2)]), (2, 24, [.b (rawOf (q.1 : Int)).1, .st (magP (rawOf (q.1 : Int)).2)])], 3⟩) (fun k => k ≤ q.2) (fun k => q.2 - k) 0 (Nat.zero_le _)
      (le_of ⟨rfl, rfl, rfl, rfl, rfl, rfl, rfl, rfl, rfl, rfl, trivial⟩ ⟨rfl, by dsimp only; rw [Nat.pow_zero, Nat.mul_one]; rfl, rfl, trivial⟩ rfl) ?_
    intro k hk2
    repeat first | refine Wp_seq ?_ | refine Wp_region tm_mixed ?_ | refine AW_quiet rfl (q_lt rfl rfl) ?_ | refine AW_nil (fun (h : false = true) => by cases h) ?_
    refine Wp_cond rfl (fun hd => ?_) (fun hd => ?_)
    · have hkl : k < q.2 := by have := of_decide_eq_true hd; omega
      have b1 := wholeP_part h2 hq (k := k) (by omega)
      have b2 := wholeP_part h2 hq (k := k + 1) (by omega)
      have b3 := wholeP_prime h2 hq (by omega)
      have e1 : wholeP (l.take i) * q.1 ^ (k + 1) = wholeP (l.take i) * q.1 ^ k * q.1 := by rw [Nat.pow_succ, Nat.mul_assoc]
      have k2 := ct_Mul0 ((wholeP (l.take i) * q.1 ^ k : Nat) : Int) (q.1 : Int) (by rw [Int.natAbs_natCast]; exact Nat.le_trans (lc_mono b1) (by omega)) (by rw [Int.natAbs_natCast]; exact Nat.le_trans (lc_mono b3) (by omega)) (by
        rw [Int.natAbs_natCast, Int.natAbs_natCast]
        have := Nat.le_trans (lc_mono b1) hW
        have := Nat.le_trans (lc_mono b3) hW
        omega)
      rw [← Int.natCast_mul, ← e1] at k2
      have hA := lt_facts (k := k)  (by omega)
      repeat first | refine Wp_seq ?_ | refine Wp_region tm_mixed ?_ | refine AW_move rfl rfl ?_ | refine AW_assign rfl rfl ?_ | refine AW_load rfl ty_num rfl rfl rfl rfl ?_ | refine AW_store ty_num rfl rfl rfl rfl rfl rfl rfl ?_ | refine AW_extract rfl rfl rfl ?_ | refine AW_call rfl rfl (by first | exact k2) ?_ | refine AW_ne rfl rfl rfl ?_ | refine AW_nil (fun (h : false = true) => by cases h) ?_ | refine Wp_block ?_ | refine Wp_skip ?_
      refine Wp_condF rfl ?_
      repeat first | refine Wp_region tm_mixed ?_ | refine AW_move rfl rfl ?_ | refine AW_quiet rfl (q_addE rfl rfl hA) ?_ | refine AW_nil (fun (h : false = true) => by cases h) ?_ | refine Wp_skip ?_
      exact ⟨k + 1, hkl, le_of ⟨rfl, rfl, rfl, rfl, rfl, rfl, rfl, rfl, rfl, rfl, trivial⟩ ⟨rfl, rfl, rfl, trivial⟩ rfl, by show q.2 - (k + 1) < q.2 - k; omega⟩
    · have hkl : k = q.2 := by have := of_decide_eq_false hd; omega
      subst hkl
      have hA := lt_facts (k := i)  (by omega)
      repeat first | refine Wp_region tm_mixed ?_ | refine AW_move rfl rfl ?_ | refine AW_quiet rfl (q_addE rfl rfl hA) ?_ | refine AW_nil (fun (h : false = true) => by cases h) ?_ | refine Wp_exit ?_
      exact ⟨i + 1, hlt, le_of ⟨rfl, rfl, rfl, rfl, rfl, rfl, rfl, trivial⟩ ⟨rfl, by dsimp only; rw [wholeP_next hq]; rfl, trivial⟩ rfl, by show l.length - (i + 1) < l.length - i; omega⟩
  · have hge : i = l.length := by have := of_decide_eq_false hc; omega
    subst hge
    rw [List.take_of_length_le (Nat.le_refl _)]
    repeat first | refine Wp_seq ?_ | refine Wp_region tm_mixed ?_ | refine AW_assign rfl rfl ?_ | refine AW_load rfl ty_num rfl rfl rfl rfl ?_ | refine AW_store ty_num rfl rfl rfl rfl rfl rfl rfl ?_ | refine AW_nil (fun (h : false = true) => by cases h) ?_ | refine Wp_exit ?_ | refine Wp_ret ?_
    exact ⟨.inr rfl, _, .cell _ _ _ _ _ _ _ _ _ _ _ ty_num rfl rfl rfl (.tmp _ _ _ _ rfl .nil), rfl⟩
/-- May a prime and its power not be? -/
def badL (x : Raw) (k : Int) : Bool := x.1 || ((x.2.length : Int) == 0) || decide (x = (false, [1])) || decide (k < 0) || decide (64 < k)
def listE (ps : List Raw) (ks : List Int) : Int := if ps.length = ks.length then (if (ps.zip ks).any (fun q => badL q.1 q.2) then 2 else 0) else 4
theorem any_at {α : Type} {l : List α} {f : α → Bool} {i : Nat} {x : α} (h : l[i]? = some x) (hf : f x = true) : l.any f = true := by
  rw [List.any_eq_true]
  exact ⟨x, List.mem_of_getElem? h, hf⟩
theorem any_none {α : Type} {l : List α} {f : α → Bool} (h : ∀ j x, j < l.length → l[j]? = some x → f x = false) : l.any f = false := by
  rw [List.any_eq_false]
  intro x hx
  obtain ⟨j, hj⟩ := List.getElem?_of_mem hx
  rw [h j x (List.getElem?_eq_some_iff.1 hj).1 hj]
  decide
set_option maxHeartbeats 2000000 in
set_option maxRecDepth 100000 in
theorem ct_lists (ps : List Raw) (ks : List Int) (hl : ps.length ≤ 1000) : Ct Tryz.prog 70 [.val (.one (.st (polyP ps))), .val (.one (.st (intsP ks)))] (.val (aI (listE ps ks))) := by
  refine ct_of_wp [.tmp 4] [(0, .val (.one (.st (polyP ps)))), (1, .val (.one (.st (intsP ks))))] 46 Tryz.func70 rfl rfl rfl rfl rfl rfl rfl rfl ?_
  intro G0 w0
  have kO := ct_pone (false, [])
  unfold listE
  by_cases hs : ps.length = ks.length
  · rw [if_pos hs]
    have hE : ((ps.length : Int) != (ks.length : Int)) = false := by rw [hs]; simp
    repeat first | refine Wp_seq ?_ | refine Wp_region tm_mixed ?_ | refine AW_move rfl rfl ?_ | refine AW_assign rfl rfl ?_ | refine AW_quiet rfl (q_lenPoly rfl rfl tu_nums) ?_ | refine AW_quiet rfl (q_lenInts rfl rfl tu_ints) ?_ | refine AW_quiet rfl (q_neE rfl rfl hE) ?_ | refine AW_nil (fun (h : false = true) => by cases h) ?_
    refine Wp_condF rfl ?_
    repeat first | refine Wp_seq ?_ | refine Wp_region tm_mixed ?_ | refine AW_move rfl rfl ?_ | refine AW_quiet rfl (q_lenPoly rfl rfl tu_nums) ?_ | refine AW_nil (fun (h : false = true) => by cases h) ?_ | refine Wp_block ?_ | refine Wp_skip ?_
    refine Wp_loop (fun i : Nat => ⟨[(1, .val (.one (.st (intsP ks)))), (12, .val (.one (.st (polyP ps)))), (13, .val (aI (ps.length : Int))), (14, .val (aI (i : Int)))], [], 0⟩) (fun i => i ≤ ps.length ∧ ∀ j x, j < i → (ps.zip ks)[j]? = some x → badL x.1 x.2 = false) (fun i => ps.length - i) 0 ⟨Nat.zero_le _, fun j _ h => by omega⟩ (le_of ⟨rfl, rfl, rfl, rfl, trivial⟩ trivial rfl) ?_
    rintro i ⟨hi, hall⟩
    repeat first | refine Wp_seq ?_ | refine Wp_region tm_mixed ?_ | refine AW_quiet rfl (q_lt rfl rfl) ?_ | refine AW_nil (fun (h : false = true) => by cases h) ?_
    refine Wp_cond rfl (fun hc => ?_) (fun hc => ?_)
    · have hlt : i < ps.length := by have := of_decide_eq_true hc; omega
      obtain ⟨⟨sx, xs⟩, hp⟩ : ∃ x, ps[i]? = some x := ⟨_, List.getElem?_eq_getElem hlt⟩
      obtain ⟨k, hk⟩ : ∃ x, ks[i]? = some x := ⟨_, List.getElem?_eq_getElem (by omega)⟩
      have kO := ct_pone (sx, xs)
      cases sx with
      | true =>
        repeat first | refine Wp_seq ?_ | refine Wp_region tm_mixed ?_ | refine AW_move rfl rfl ?_ | refine AW_assign rfl rfl ?_ | refine AW_store ty_num rfl rfl rfl rfl rfl rfl rfl ?_ | refine AW_alloc rfl tz_num ?_ | refine AW_fieldAddr rfl tf_neg rfl rfl ?_ | refine AW_load rfl ty_bool rfl rfl rfl rfl ?_ | refine AW_quiet rfl (q_polyAt rfl rfl hp tu_nums ts_num) ?_ | refine AW_quiet rfl (q_loadP rfl ty_num) ?_ | refine AW_pickT rfl rfl rfl ?_ | refine AW_skip rfl rfl rfl rfl ?_ | refine AW_nil (fun (h : false = true) => by cases h) ?_ | refine Wp_block ?_ | refine Wp_skip ?_
        refine Wp_condT rfl ?_
        repeat first | refine Wp_seq ?_ | refine Wp_region tm_mixed ?_ | refine AW_assign rfl rfl ?_ | refine AW_nil (fun (h : false = true) => by cases h) ?_ | refine Wp_ret ?_
        exact ⟨.inr rfl, _, .tmp _ _ _ _ rfl .nil, by
          have hb : (ps.zip ks).any (fun q => badL q.1 q.2) = true := any_at (List.getElem?_zip_eq_some (z := (_, k)) |>.2 ⟨hp, hk⟩) (by rfl)
          rw [hb]; rfl⟩
      | false =>
        by_cases h0 : ((xs.length : Int) == 0) = true
        · repeat first | refine Wp_seq ?_ | refine Wp_region tm_mixed ?_ | refine AW_move rfl rfl ?_ | refine AW_assign rfl rfl ?_ | refine AW_store ty_num rfl rfl rfl rfl rfl rfl rfl ?_ | refine AW_alloc rfl tz_num ?_ | refine AW_fieldAddr rfl tf_neg rfl rfl ?_ | refine AW_load rfl ty_bool rfl rfl rfl rfl ?_ | refine AW_quietg rfl rfl rfl rfl (q_eqE rfl rfl h0) ?_ | refine AW_quiet rfl (q_polyAt rfl rfl hp tu_nums ts_num) ?_ | refine AW_quiet rfl (q_loadP rfl ty_num) ?_ | refine AW_fieldAddrg rfl rfl rfl rfl tf_mag rfl rfl ?_ | refine AW_loadg rfl rfl rfl rfl ty_mag rfl rfl rfl rfl ?_ | refine AW_quietg rfl rfl rfl rfl (q_len rfl rfl Tryz.underlying22) ?_ | refine AW_pickT rfl rfl rfl ?_ | refine AW_pickF rfl rfl rfl ?_ | refine AW_skip rfl rfl rfl rfl ?_ | refine AW_nil (fun (h : false = true) => by cases h) ?_ | refine Wp_block ?_ | refine Wp_skip ?_
          refine Wp_condT rfl ?_
          repeat first | refine Wp_seq ?_ | refine Wp_region tm_mixed ?_ | refine AW_assign rfl rfl ?_ | refine AW_nil (fun (h : false = true) => by cases h) ?_ | refine Wp_ret ?_
          exact ⟨.inr rfl, _, .tmp _ _ _ _ rfl .nil, by
            have hb : (ps.zip ks).any (fun q => badL q.1 q.2) = true := any_at (List.getElem?_zip_eq_some (z := (_, k)) |>.2 ⟨hp, hk⟩) (by unfold badL; rw [h0]; rfl)
            rw [hb]; rfl⟩
        · have h0 : ((xs.length : Int) == 0) = false := by simpa using h0
          by_cases h1 : ((false, xs) : Raw) = (false, [1])
          · rw [decide_eq_true h1] at kO
            repeat first | refine Wp_seq ?_ | refine Wp_region tm_mixed ?_ | refine AW_move rfl rfl ?_ | refine AW_assign rfl rfl ?_ | refine AW_store ty_num rfl rfl rfl rfl rfl rfl rfl ?_ | refine AW_alloc rfl tz_num ?_ | refine AW_fieldAddr rfl tf_neg rfl rfl ?_ | refine AW_load rfl ty_bool rfl rfl rfl rfl ?_ | refine AW_quietg rfl rfl rfl rfl (q_eqE rfl rfl h0) ?_ | refine AW_quiet rfl (q_polyAt rfl rfl hp tu_nums ts_num) ?_ | refine AW_quiet rfl (q_loadP rfl ty_num) ?_ | refine AW_fieldAddrg rfl rfl rfl rfl tf_mag rfl rfl ?_ | refine AW_loadg rfl rfl rfl rfl ty_mag rfl rfl rfl rfl ?_ | refine AW_quietg rfl rfl rfl rfl (q_len rfl rfl Tryz.underlying22) ?_ | refine AW_pickT rfl rfl rfl ?_ | refine AW_pickF rfl rfl rfl ?_ | refine AW_skip rfl rfl rfl rfl ?_ | refine AW_loadg rfl rfl rfl rfl ty_num rfl rfl rfl rfl ?_ | refine AW_callg rfl rfl rfl rfl rfl (by first | exact kO) ?_ | refine AW_nil (fun (h : false = true) => by cases h) ?_ | refine Wp_block ?_ | refine Wp_skip ?_
            refine Wp_condT rfl ?_
            repeat first | refine Wp_seq ?_ | refine Wp_region tm_mixed ?_ | refine AW_assign rfl rfl ?_ | refine AW_nil (fun (h : false = true) => by cases h) ?_ | refine Wp_ret ?_
            exact ⟨.inr rfl, _, .tmp _ _ _ _ rfl .nil, by
              have hb : (ps.zip ks).any (fun q => badL q.1 q.2) = true := any_at (List.getElem?_zip_eq_some (z := (_, k)) |>.2 ⟨hp, hk⟩) (by unfold badL; rw [decide_eq_true h1]; simp)
              rw [hb]; rfl⟩
          · rw [decide_eq_false h1] at kO
            by_cases h2 : k < 0
            · have h2' : decide (k < 0) = true := decide_eq_true h2
              repeat first | refine Wp_seq ?_ | refine Wp_region tm_mixed ?_ | refine AW_move rfl rfl ?_ | refine AW_assign rfl rfl ?_ | refine AW_store ty_num rfl rfl rfl rfl rfl rfl rfl ?_ | refine AW_alloc rfl tz_num ?_ | refine AW_fieldAddr rfl tf_neg rfl rfl ?_ | refine AW_load rfl ty_bool rfl rfl rfl rfl ?_ | refine AW_quietg rfl rfl rfl rfl (q_eqE rfl rfl h0) ?_ | refine AW_quietg rfl rfl rfl rfl (q_ltE rfl rfl h2') ?_ | refine AW_quiet rfl (q_polyAt rfl rfl hp tu_nums ts_num) ?_ | refine AW_quiet rfl (q_loadP rfl ty_num) ?_ | refine AW_fieldAddrg rfl rfl rfl rfl tf_mag rfl rfl ?_ | refine AW_loadg rfl rfl rfl rfl ty_mag rfl rfl rfl rfl ?_ | refine AW_quietg rfl rfl rfl rfl (q_len rfl rfl Tryz.underlying22) ?_ | refine AW_quietg rfl rfl rfl rfl (q_intAt rfl rfl hk tu_ints ts_int) ?_ | refine AW_quietg rfl rfl rfl rfl (q_intLoad rfl ty_int) ?_ | refine AW_pickT rfl rfl rfl ?_ | refine AW_pickF rfl rfl rfl ?_ | refine AW_skip rfl rfl rfl rfl ?_ | refine AW_moveg rfl rfl rfl rfl rfl ?_ | refine AW_loadg rfl rfl rfl rfl ty_num rfl rfl rfl rfl ?_ | refine AW_callg rfl rfl rfl rfl rfl (by first | exact kO) ?_ | refine AW_nil (fun (h : false = true) => by cases h) ?_ | refine Wp_block ?_ | refine Wp_skip ?_
              refine Wp_condT rfl ?_
              repeat first | refine Wp_seq ?_ | refine Wp_region tm_mixed ?_ | refine AW_assign rfl rfl ?_ | refine AW_nil (fun (h : false = true) => by cases h) ?_ | refine Wp_ret ?_
              exact ⟨.inr rfl, _, .tmp _ _ _ _ rfl .nil, by
                have hb : (ps.zip ks).any (fun q => badL q.1 q.2) = true := any_at (List.getElem?_zip_eq_some (z := (_, k)) |>.2 ⟨hp, hk⟩) (by unfold badL; rw [h2']; simp)
                rw [hb]; rfl⟩
            · have h2' : decide (k < 0) = false := decide_eq_false h2
              by_cases h3 : 64 < k
              · have h3' : decide (64 < k) = true := decide_eq_true h3
                repeat first | refine Wp_seq ?_ | refine Wp_region tm_mixed ?_ | refine AW_move rfl rfl ?_ | refine AW_assign rfl rfl ?_ | refine AW_store ty_num rfl rfl rfl rfl rfl rfl rfl ?_ | refine AW_alloc rfl tz_num ?_ | refine AW_fieldAddr rfl tf_neg rfl rfl ?_ | refine AW_load rfl ty_bool rfl rfl rfl rfl ?_ | refine AW_quietg rfl rfl rfl rfl (q_eqE rfl rfl h0) ?_ | refine AW_quietg rfl rfl rfl rfl (q_ltE rfl rfl h2') ?_ | refine AW_quietg rfl rfl rfl rfl (q_gtE rfl rfl h3') ?_ | refine AW_quiet rfl (q_polyAt rfl rfl hp tu_nums ts_num) ?_ | refine AW_quiet rfl (q_loadP rfl ty_num) ?_ | refine AW_fieldAddrg rfl rfl rfl rfl tf_mag rfl rfl ?_ | refine AW_loadg rfl rfl rfl rfl ty_mag rfl rfl rfl rfl ?_ | refine AW_quietg rfl rfl rfl rfl (q_len rfl rfl Tryz.underlying22) ?_ | refine AW_quietg rfl rfl rfl rfl (q_intAt rfl rfl hk tu_ints ts_int) ?_ | refine AW_quietg rfl rfl rfl rfl (q_intLoad rfl ty_int) ?_ | refine AW_pickF rfl rfl rfl ?_ | refine AW_moveg rfl rfl rfl rfl rfl ?_ | refine AW_loadg rfl rfl rfl rfl ty_num rfl rfl rfl rfl ?_ | refine AW_callg rfl rfl rfl rfl rfl (by first | exact kO) ?_ | refine AW_nil (fun (h : false = true) => by cases h) ?_ | refine Wp_block ?_ | refine Wp_skip ?_
                refine Wp_condT rfl ?_
                repeat first | refine Wp_seq ?_ | refine Wp_region tm_mixed ?_ | refine AW_assign rfl rfl ?_ | refine AW_nil (fun (h : false = true) => by cases h) ?_ | refine Wp_ret ?_
                exact ⟨.inr rfl, _, .tmp _ _ _ _ rfl .nil, by
                  have hb : (ps.zip ks).any (fun q => badL q.1 q.2) = true := any_at (List.getElem?_zip_eq_some (z := (_, k)) |>.2 ⟨hp, hk⟩) (by unfold badL; rw [h3']; simp)
                  rw [hb]; rfl⟩
              · have h3' : decide (64 < k) = false := decide_eq_false h3
                have hA := lt_facts (k := i)  (by omega)
                repeat first | refine Wp_seq ?_ | refine Wp_region tm_mixed ?_ | refine AW_move rfl rfl ?_ | refine AW_assign rfl rfl ?_ | refine AW_store ty_num rfl rfl rfl rfl rfl rfl rfl ?_ | refine AW_alloc rfl tz_num ?_ | refine AW_fieldAddr rfl tf_neg rfl rfl ?_ | refine AW_load rfl ty_bool rfl rfl rfl rfl ?_ | refine AW_quietg rfl rfl rfl rfl (q_eqE rfl rfl h0) ?_ | refine AW_quietg rfl rfl rfl rfl (q_ltE rfl rfl h2') ?_ | refine AW_quietg rfl rfl rfl rfl (q_gtE rfl rfl h3') ?_ | refine AW_quiet rfl (q_polyAt rfl rfl hp tu_nums ts_num) ?_ | refine AW_quiet rfl (q_loadP rfl ty_num) ?_ | refine AW_fieldAddrg rfl rfl rfl rfl tf_mag rfl rfl ?_ | refine AW_loadg rfl rfl rfl rfl ty_mag rfl rfl rfl rfl ?_ | refine AW_quietg rfl rfl rfl rfl (q_len rfl rfl Tryz.underlying22) ?_ | refine AW_quietg rfl rfl rfl rfl (q_intAt rfl rfl hk tu_ints ts_int) ?_ | refine AW_quietg rfl rfl rfl rfl (q_intLoad rfl ty_int) ?_ | refine AW_pickF rfl rfl rfl ?_ | refine AW_moveg rfl rfl rfl rfl rfl ?_ | refine AW_loadg rfl rfl rfl rfl ty_num rfl rfl rfl rfl ?_ | refine AW_callg rfl rfl rfl rfl rfl (by first | exact kO) ?_ | refine AW_nil (fun (h : false = true) => by cases h) ?_ | refine Wp_block ?_ | refine Wp_skip ?_
                refine Wp_condF rfl ?_
                repeat first | refine Wp_region tm_mixed ?_ | refine AW_move rfl rfl ?_ | refine AW_quiet rfl (q_addE rfl rfl hA) ?_ | refine AW_nil (fun (h : false = true) => by cases h) ?_ | refine Wp_skip ?_
                refine ⟨i + 1, ⟨hlt, fun j x hj hx => ?_⟩, le_of ⟨rfl, rfl, rfl, rfl, trivial⟩ trivial rfl, by show ps.length - (i + 1) < ps.length - i; omega⟩
                by_cases hji : j = i
                · subst hji
                  rw [List.getElem?_zip_eq_some, hp, hk] at hx
                  obtain ⟨e1, e2⟩ := hx
                  cases x
                  cases e1
                  cases e2
                  unfold badL
                  rw [h0, decide_eq_false h1, h2', h3']
                  rfl
                · exact hall j x (by omega) hx
    · have hge : i = ps.length := by have := of_decide_eq_false hc; omega
      subst hge
      have hb : (ps.zip ks).any (fun q => badL q.1 q.2) = false := any_none fun j x hj hx => hall j x (by rw [List.length_zip] at hj; omega) hx
      rw [hb]
      repeat first | refine Wp_seq ?_ | refine Wp_region tm_mixed ?_ | refine AW_assign rfl rfl ?_ | refine AW_nil (fun (h : false = true) => by cases h) ?_ | refine Wp_exit ?_ | refine Wp_ret ?_
      exact ⟨.inr rfl, _, .tmp _ _ _ _ rfl .nil, rfl⟩
  · rw [if_neg hs]
    have hE : ((ps.length : Int) != (ks.length : Int)) = true := by simp; omega
    repeat first | refine Wp_seq ?_ | refine Wp_region tm_mixed ?_ | refine AW_move rfl rfl ?_ | refine AW_assign rfl rfl ?_ | refine AW_quiet rfl (q_lenPoly rfl rfl tu_nums) ?_ | refine AW_quiet rfl (q_lenInts rfl rfl tu_ints) ?_ | refine AW_quiet rfl (q_neE rfl rfl hE) ?_ | refine AW_nil (fun (h : false = true) => by cases h) ?_
    refine Wp_condT rfl ?_
    repeat first | refine Wp_seq ?_ | refine Wp_region tm_mixed ?_ | refine AW_assign rfl rfl ?_ | refine AW_nil (fun (h : false = true) => by cases h) ?_ | refine Wp_ret ?_
    exact ⟨.inr rfl, _, .tmp _ _ _ _ rfl .nil, rfl⟩
end Go.Proofs.YtjbagikfogejnaaGreatDoor
