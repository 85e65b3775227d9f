import Derived.Test.YtjbagikfogejnaaGreatDoorPUe
import Derived.Test.YtjbagikfogejnaaGreatDoorProg
import Derived.WalkKit
import Derived.Laws.OwnMore
import Derived.Deep.Draws
import Derived.Deep.OwnRows
import Derived.Deep.LoopGhost
import Derived.Deep.QuietTactic
import Derived.BigQuiet
import Derived.Lib.Hide
import Derived.Maps.AppendAt
import Derived.Laws.Rows
import Derived.OneCell
import Derived.Shelf.Spec.BitsCarry
import Derived.Deep.DeepCutAuto
import Derived.Shelf.Small.Bits
import Derived.Shelf.Strconv.Itoa0
import Derived.Shelf.Bits.Mul64
import Derived.Lib.BitFns
import Derived.Deep.CutBlock
import Derived.BigRegion
import Derived.StillTailTactics
import Derived.Deep.AppendLies
import Derived.Orders
import Derived.Lib.SliceRun
import Derived.Deep.MidRow
import Derived.BigCall
import Derived.Laws.AppendOwn
import Derived.Great.BuildSlice
import Derived.Laws.Append
import Derived.Deep.RegionWith
import Derived.WalkMore
import Derived.Laws.EntriesVeiled
import Derived.Laws.CopyOwn
import Derived.Scope
import Derived.Test.YtjbagikfogejnaaGreatDoorRows
import Derived.ProofKit
import Derived.OpenShut
import Derived.Deep.SlicePairs
import Derived.WideKeyArgs
import Derived.Test.YtjbagikfogejnaaGreatDoorCards
import Derived.Test.YtjbagikfogejnaaGreatDoorTie
import Derived.LaidMore
import Derived.Stop.Joined
import Derived.SevenTiedAt
/- Of: Pow4, R21a, R21b, Abs16, L21, L21m, L21b, Abs17, Abs18, Pick, L21p, Row, Tab. -/
/- The package power, by the abstract machine: Order. -/
namespace Go.Proofs.YtjbagikfogejnaaGreatDoor
open Go.RowKit Go.Deep
theorem nat_raw (n : Nat) : rawOf (n : Int) = (false, limbs n) := by
  unfold rawOf
  rw [decide_eq_false (show ¬ ((n : Int) < 0) by omega), Int.natAbs_natCast]
theorem cmpZ_is0 (x y : Int) : (cmpZ x y == 0) = decide (x = y) := by
  rcases Int.lt_trichotomy x y with h | h | h
  · rw [cmpZ_lt h, decide_eq_false (by omega)]; rfl
  · subst h; rw [cmpZ_eq, decide_eq_true rfl]; rfl
  · rw [cmpZ_gt h, decide_eq_false (by omega)]; rfl
theorem nums_nop (x : Raw) : ∀ c ∈ [AC.b x.1, AC.st (magP x.2)], c.nop = true := nop_all rfl
abbrev atN (x : Raw) : Pred := atP [.b x.1, .st (magP x.2)] (nums_nop x)
abbrev aAt (x : Raw) : AR := .val (.one (.st (atN x)))
theorem fdiv_nat (n p : Nat) : (n : Int).fdiv (p : Int) = ((n / p : Nat) : Int) := by
  rw [Int.fdiv_eq_ediv_of_nonneg _ (by omega)]
  rfl
theorem listE_ok {l : List (Nat × Nat)} (h2 : ∀ q ∈ l, 2 ≤ q.1) (h64 : ∀ q ∈ l, q.2 ≤ 64) : listE (psR l) (ksI l) = 0 := by
  unfold listE
  rw [if_pos (by rw [psR_len, ksI_len])]
  have : ((psR l).zip (ksI l)).any (fun q => badL q.1 q.2) = false := by
    refine any_none fun j x hj hx => ?_
    rw [List.getElem?_zip_eq_some] at hx
    rw [List.length_zip, psR_len, ksI_len, Nat.min_self] at hj
    obtain ⟨q, hq⟩ : ∃ q, l[j]? = some q := ⟨_, List.getElem?_eq_getElem hj⟩
    rw [psR_at hq, ksI_at hq] at hx
    obtain ⟨e1, e2⟩ := hx
    have q2 := h2 q (List.mem_of_getElem? hq)
    have q6 := h64 q (List.mem_of_getElem? hq)
    have e1 : rawOf (q.1 : Int) = x.1 := by simpa using e1
    have e2 : (q.2 : Int) = x.2 := by simpa using e2
    unfold badL
    rw [← e1, ← e2, nat_raw]
    have a1 : (((limbs q.1).length : Int) == 0) = false := beq_eq_false_iff_ne.2 fun e => by
      have : (limbs q.1).length = 0 := by omega
      rw [List.length_eq_zero_iff, limbs_eq_nil] at this
      omega
    have a2 : decide (((false, limbs q.1) : Raw) = (false, [1])) = false := decide_eq_false fun e => by
      rw [← nat_raw, ← raw_one] at e
      have := rawOf_inj e
      omega
    rw [a1, a2, decide_eq_false (by omega), decide_eq_false (by omega)]
    rfl
  rw [this]
  rfl
set_option maxRecDepth 100000 in
theorem ct_is (x m : Int) (n : Nat) (hx : lc x.natAbs ≤ 90) (hm : lc m.natAbs ≤ 90) (h0 : 0 < m) (hn : lc n ≤ 4096) : Ct Tryz.prog 73 [aZ (n : Int), aAt (rawOf x), aAt (rawOf m), aAt (rawOf (1 % m))] (.val (aB (isZ x m n))) := by
  refine ct_of_wp [.tmp 5] [(0, aZ (n : Int)), (1, aAt (rawOf x)), (2, aAt (rawOf m)), (3, aAt (rawOf (1 % m)))] 19 Tryz.func73 rfl rfl rfl rfl rfl rfl rfl rfl ?_
  intro G0 w0
  have k1 := ct_power x m n hx hm h0 hn
  have b1 := Int.emod_nonneg 1 (show m ≠ 0 by omega)
  have b2 := Int.emod_lt_of_pos 1 h0
  have l1 : lc (1 % m).natAbs ≤ 90 := Nat.le_trans (lc_mono (by omega)) hm
  have lp := pow_lc (a := x) (n := n) h0 hm
  have k2 := ct_Cmp (x ^ n % m) (1 % m) (by omega) (by omega)
  have hE : (cmpZ (x ^ n % m) (1 % m) == 0) = isZ x m n := cmpZ_is0 _ _
  repeat first | refine Wp_seq ?_ | refine Wp_region tm_mixed ?_ | refine AW_move rfl rfl ?_ | refine AW_assign rfl rfl ?_ | refine AW_load rfl ty_num rfl rfl rfl rfl ?_ | refine AW_extract rfl rfl rfl ?_ | refine AW_box rfl rfl (row := true) rfl (fun h => by cases h) rfl ?_ | refine AW_call rfl rfl (by first | exact k1 | exact k2) ?_ | refine AW_quiet rfl (q_atLoad rfl ty_num rfl) ?_ | refine AW_quiet rfl (q_eqE rfl rfl hE) ?_ | refine AW_nil (fun (h : false = true) => by cases h) ?_ | refine AW_nil (fun (_ : true = true) => by kernel_rfl) ?_ | refine Wp_ret ?_
  exact ⟨.inr rfl, _, .tmp _ _ _ _ rfl .nil, rfl⟩
set_option maxHeartbeats 2000000 in
set_option maxRecDepth 100000 in
theorem ct_Order_none (a m : Int) (l : List (Nat × Nat)) (ha : lc a.natAbs ≤ 90) (hm : lc m.natAbs ≤ 90) (h0 : 0 < m) (h2 : ∀ q ∈ l, 2 ≤ q.1) (h64 : ∀ q ∈ l, q.2 ≤ 64) (hl : l.length ≤ 1000) (hW : lc (wholeP l) ≤ 1000) (hall : ∀ x ∈ [rawOf a, rawOf m] ++ psR l, rightInt x = true) (hg : gcdZ a m ≠ 1) :
    Ct Tryz.prog 22 [aZ a, aZ m, .val (.one (.st (polyP (psR l)))), .val (.one (.st (intsP (ksI l))))] (.tup [aInt (false, []), aI 310]) := by
  refine ct_of_wp [.cell 8 24, .tmp 9] [(0, aZ a), (1, aZ m), (2, .val (.one (.st (polyP (psR l))))), (3, .val (.one (.st (intsP (ksI l)))))] 116 Tryz.func22 rfl rfl rfl rfl rfl rfl rfl rfl ?_
  intro G0 w0
  have k3 := ct_pmodulus (rawOf m)
  rw [muE_pos h0] at k3
  have hpl := psR_len l
  have k4 := ct_lists (psR l) (ksI l) (by omega)
  rw [listE_ok h2 h64] at k4
  have k5 := ct_whole l (fun q hq => by have := h2 q hq; omega) (fun q hq => by have := h64 q hq; omega) hl hW
  have k6 := ct_pInverse_none a m ha hm h0 hg
  have hlen : [rawOf a, rawOf m].length + (psR l).length ≤ 100000 := by simp; omega
  have kD := ct_limbOf 1 (by decide) (by decide)
  repeat first | refine Wp_seq ?_ | refine Wp_region tm_mixed ?_ | refine AW_move rfl rfl ?_ | refine AW_assign rfl rfl ?_ | refine AW_load rfl ty_num rfl rfl rfl rfl ?_ | refine AW_alloc rfl tz_num ?_ | refine AW_box rfl rfl (row := true) rfl (fun h => by cases h) rfl ?_ | refine AW_quiet rfl (q_lenPoly rfl rfl tu_nums) ?_ | refine AW_quiet rfl (q_buildFull rfl rfl rfl tu_nums ti_num ti_size ti_zero (.cons _ _ _ _ _ rfl (.cons _ _ _ _ _ rfl (.nil _)))) ?_ | refine AW_quiet rfl (q_appPoly (n := 2) (xs := [rawOf a, rawOf m]) rfl (by decide) rfl rfl hlen) ?_ | refine AW_nil (fun (h : false = true) => by cases h) ?_ | refine Wp_block ?_
  refine Wp_loop (fun i : Nat => ⟨[(2, .val (.one (.st (polyP (psR l))))), (3, .val (.one (.st (intsP (ksI l))))), (4, .val (.one (.ptr 0 0))), (5, .val (.one (.ptr 1 0))), (8, .val (.one (.ptr 2 0))), (29, .val (.one (.st (polyP ([rawOf a, rawOf m] ++ psR l))))), (30, .val (aI (([rawOf a, rawOf m] ++ psR l).length : Int))), (31, .val (aI (i : Int)))],
    [(0, 24, [.b (rawOf a).1, .st (magP (rawOf a).2)]), (1, 24, [.b (rawOf m).1, .st (magP (rawOf m).2)]), (2, 24, [.b false, .st (magP [])])], 3⟩) (fun i => i ≤ ([rawOf a, rawOf m] ++ psR l).length) (fun i => ([rawOf a, rawOf m] ++ psR l).length - i) 0 (Nat.zero_le _) (le_of ⟨rfl, rfl, rfl, rfl, rfl, rfl, rfl, rfl, trivial⟩ ⟨rfl, rfl, rfl, trivial⟩ rfl) ?_
  intro i hi
  repeat first | refine Wp_seq ?_ | refine Wp_region tm_mixed ?_ | refine AW_quiet rfl (q_lt rfl rfl) ?_ | refine AW_nil (fun (h : false = true) => by cases h) ?_
  refine Wp_cond rfl (fun hc => ?_) (fun hc => ?_)
  · have hlt : i < ([rawOf a, rawOf m] ++ psR l).length := by have := of_decide_eq_true hc; omega
    obtain ⟨x, hx⟩ : ∃ x, ([rawOf a, rawOf m] ++ psR l)[i]? = some x := ⟨_, List.getElem?_eq_getElem hlt⟩
    have kR := ct_Right x
    rw [hall x (List.mem_of_getElem? hx)] at kR
    have hA := lt_facts (k := i) (by have : ([rawOf a, rawOf m] ++ psR l).length = [rawOf a, rawOf m].length + (psR l).length := List.length_append; omega)
    repeat first | refine Wp_seq ?_ | refine Wp_region tm_mixed ?_ | refine AW_load rfl ty_num rfl rfl rfl rfl ?_ | refine AW_store ty_num rfl rfl rfl rfl rfl rfl rfl ?_ | refine AW_alloc rfl tz_num ?_ | refine AW_not rfl rfl ?_ | refine AW_call rfl rfl (by first | exact kR) ?_ | refine AW_quiet rfl (q_polyAt rfl rfl hx tu_nums ts_num) ?_ | refine AW_quiet rfl (q_loadP rfl ty_num) ?_ | refine AW_nil (fun (h : false = true) => by cases h) ?_ | refine Wp_block ?_ | refine Wp_skip ?_
    refine Wp_condF rfl ?_
    repeat first | refine Wp_region tm_mixed ?_ | refine AW_move rfl rfl ?_ | refine AW_quiet rfl (q_addE rfl rfl hA) ?_ | refine AW_nil (fun (h : false = true) => by cases h) ?_ | refine Wp_skip ?_
    exact ⟨i + 1, hlt, le_of ⟨rfl, rfl, rfl, rfl, rfl, rfl, rfl, rfl, trivial⟩ ⟨rfl, rfl, rfl, trivial⟩ rfl, by show ([rawOf a, rawOf m] ++ psR l).length - (i + 1) < ([rawOf a, rawOf m] ++ psR l).length - i; omega⟩
  repeat first | refine Wp_seq ?_ | refine Wp_region tm_mixed ?_ | refine AW_move rfl rfl ?_ | refine AW_assign rfl rfl ?_ | refine AW_load rfl ty_num rfl rfl rfl rfl ?_ | refine AW_call rfl rfl (by first | exact k3) ?_ | refine AW_eq rfl rfl rfl ?_ | refine AW_nil (fun (h : false = true) => by cases h) ?_ | refine Wp_exit ?_
  refine Wp_condT rfl ?_
  repeat first | refine Wp_seq ?_ | refine Wp_region tm_mixed ?_ | refine AW_move rfl rfl ?_ | refine AW_assign rfl rfl ?_ | refine AW_call rfl rfl (by first | exact k4) ?_ | refine AW_ne rfl rfl rfl ?_ | refine AW_nil (fun (h : false = true) => by cases h) ?_
  refine Wp_condF rfl ?_
  repeat first | refine Wp_seq ?_ | refine Wp_region tm_mixed ?_ | refine AW_move rfl rfl ?_ | refine AW_assign rfl rfl ?_ | refine AW_store ty_num rfl rfl rfl rfl rfl rfl rfl ?_ | refine AW_extract rfl rfl rfl ?_ | refine AW_alloc rfl tz_num ?_ | refine AW_call rfl rfl (by first | exact k5) ?_ | refine AW_ne rfl rfl rfl ?_ | refine AW_nil (fun (h : false = true) => by cases h) ?_ | refine Wp_skip ?_
  refine Wp_condF rfl ?_
  repeat first | refine Wp_seq ?_ | refine Wp_region tm_mixed ?_ | refine AW_move rfl rfl ?_ | refine AW_assign rfl rfl ?_ | refine AW_load rfl ty_num rfl rfl rfl rfl ?_ | refine AW_store ty_num rfl rfl rfl rfl rfl rfl rfl ?_ | refine AW_extract rfl rfl rfl ?_ | refine AW_alloc rfl tz_num ?_ | refine AW_call rfl rfl (by first | exact k6) ?_ | refine AW_ne rfl rfl rfl ?_ | refine AW_nil (fun (h : false = true) => by cases h) ?_ | refine Wp_skip ?_
  refine Wp_condT rfl ?_
  repeat first | refine Wp_seq ?_ | refine Wp_region tm_mixed ?_ | refine AW_move rfl rfl ?_ | refine AW_assign rfl rfl ?_ | refine AW_store ty_num rfl rfl rfl rfl rfl rfl rfl ?_ | refine AW_build rfl tb_num rfl ?_ | refine AW_nil (fun (h : false = true) => by cases h) ?_ | refine Wp_ret ?_
  exact ⟨.inr rfl, _, .cell _ _ _ _ _ _ _ _ _ _ _ ty_num rfl rfl rfl (.tmp _ _ _ _ rfl .nil), rfl⟩
set_option maxHeartbeats 2000000 in
set_option maxRecDepth 100000 in
theorem ct_Order_not (a m : Int) (l : List (Nat × Nat)) (ha : lc a.natAbs ≤ 90) (hm : lc m.natAbs ≤ 90) (h0 : 0 < m) (h2 : ∀ q ∈ l, 2 ≤ q.1) (h64 : ∀ q ∈ l, q.2 ≤ 64) (hl : l.length ≤ 1000) (hW : lc (wholeP l) ≤ 1000) (hall : ∀ x ∈ [rawOf a, rawOf m] ++ psR l, rightInt x = true) (hg : gcdZ a m = 1) (hN : isZ (a % m) m (wholeP l) = false) :
    Ct Tryz.prog 22 [aZ a, aZ m, .val (.one (.st (polyP (psR l)))), .val (.one (.st (intsP (ksI l))))] (.tup [aInt (false, []), aI 2]) := by
  refine ct_of_wp [.cell 8 24, .tmp 9] [(0, aZ a), (1, aZ m), (2, .val (.one (.st (polyP (psR l))))), (3, .val (.one (.st (intsP (ksI l)))))] 116 Tryz.func22 rfl rfl rfl rfl rfl rfl rfl rfl ?_
  intro G0 w0
  have k3 := ct_pmodulus (rawOf m)
  rw [muE_pos h0] at k3
  have hpl := psR_len l
  have k4 := ct_lists (psR l) (ksI l) (by omega)
  rw [listE_ok h2 h64] at k4
  have k5 := ct_whole l (fun q hq => by have := h2 q hq; omega) (fun q hq => by have := h64 q hq; omega) hl hW
  have k6 := ct_pInverse a m ha hm h0 hg
  have k7 := ct_ModP a m (by omega) (by omega) h0
  have k8 := ct_unit m (by omega) h0
  have hr1 := Int.emod_nonneg a (show m ≠ 0 by omega)
  have hr2 := Int.emod_lt_of_pos a h0
  have lr : lc (a % m).natAbs ≤ 90 := Nat.le_trans (lc_mono (by omega)) hm
  have k9 := ct_is (a % m) m (wholeP l) lr hm h0 (by omega)
  have hlen : [rawOf a, rawOf m].length + (psR l).length ≤ 100000 := by simp; omega
  have kD := ct_limbOf 1 (by decide) (by decide)
  repeat first | refine Wp_seq ?_ | refine Wp_region tm_mixed ?_ | refine AW_move rfl rfl ?_ | refine AW_assign rfl rfl ?_ | refine AW_load rfl ty_num rfl rfl rfl rfl ?_ | refine AW_alloc rfl tz_num ?_ | refine AW_box rfl rfl (row := true) rfl (fun h => by cases h) rfl ?_ | refine AW_quiet rfl (q_lenPoly rfl rfl tu_nums) ?_ | refine AW_quiet rfl (q_buildFull rfl rfl rfl tu_nums ti_num ti_size ti_zero (.cons _ _ _ _ _ rfl (.cons _ _ _ _ _ rfl (.nil _)))) ?_ | refine AW_quiet rfl (q_appPoly (n := 2) (xs := [rawOf a, rawOf m]) rfl (by decide) rfl rfl hlen) ?_ | refine AW_nil (fun (h : false = true) => by cases h) ?_ | refine Wp_block ?_
  refine Wp_loop (fun i : Nat => ⟨[(2, .val (.one (.st (polyP (psR l))))), (3, .val (.one (.st (intsP (ksI l))))), (4, .val (.one (.ptr 0 0))), (5, .val (.one (.ptr 1 0))), (8, .val (.one (.ptr 2 0))), (29, .val (.one (.st (polyP ([rawOf a, rawOf m] ++ psR l))))), (30, .val (aI (([rawOf a, rawOf m] ++ psR l).length : Int))), (31, .val (aI (i : Int)))],
    [(0, 24, [.b (rawOf a).1, .st (magP (rawOf a).2)]), (1, 24, [.b (rawOf m).1, .st (magP (rawOf m).2)]), (2, 24, [.b false, .st (magP [])])], 3⟩) (fun i => i ≤ ([rawOf a, rawOf m] ++ psR l).length) (fun i => ([rawOf a, rawOf m] ++ psR l).length - i) 0 (Nat.zero_le _) (le_of ⟨rfl, rfl, rfl, rfl, rfl, rfl, rfl, rfl, trivial⟩ ⟨rfl, rfl, rfl, trivial⟩ rfl) ?_
  intro i hi
  repeat first | refine Wp_seq ?_ | refine Wp_region tm_mixed ?_ | refine AW_quiet rfl (q_lt rfl rfl) ?_ | refine AW_nil (fun (h : false = true) => by cases h) ?_
  refine Wp_cond rfl (fun hc => ?_) (fun hc => ?_)
  · have hlt : i < ([rawOf a, rawOf m] ++ psR l).length := by have := of_decide_eq_true hc; omega
    obtain ⟨x, hx⟩ : ∃ x, ([rawOf a, rawOf m] ++ psR l)[i]? = some x := ⟨_, List.getElem?_eq_getElem hlt⟩
    have kR := ct_Right x
    rw [hall x (List.mem_of_getElem? hx)] at kR
    have hA := lt_facts (k := i) (by have : ([rawOf a, rawOf m] ++ psR l).length = [rawOf a, rawOf m].length + (psR l).length := List.length_append; omega)
    repeat first | refine Wp_seq ?_ | refine Wp_region tm_mixed ?_ | refine AW_load rfl ty_num rfl rfl rfl rfl ?_ | refine AW_store ty_num rfl rfl rfl rfl rfl rfl rfl ?_ | refine AW_alloc rfl tz_num ?_ | refine AW_not rfl rfl ?_ | refine AW_call rfl rfl (by first | exact kR) ?_ | refine AW_quiet rfl (q_polyAt rfl rfl hx tu_nums ts_num) ?_ | refine AW_quiet rfl (q_loadP rfl ty_num) ?_ | refine AW_nil (fun (h : false = true) => by cases h) ?_ | refine Wp_block ?_ | refine Wp_skip ?_
    refine Wp_condF rfl ?_
    repeat first | refine Wp_region tm_mixed ?_ | refine AW_move rfl rfl ?_ | refine AW_quiet rfl (q_addE rfl rfl hA) ?_ | refine AW_nil (fun (h : false = true) => by cases h) ?_ | refine Wp_skip ?_
    exact ⟨i + 1, hlt, le_of ⟨rfl, rfl, rfl, rfl, rfl, rfl, rfl, rfl, trivial⟩ ⟨rfl, rfl, rfl, trivial⟩ rfl, by show ([rawOf a, rawOf m] ++ psR l).length - (i + 1) < ([rawOf a, rawOf m] ++ psR l).length - i; omega⟩
  repeat first | refine Wp_seq ?_ | refine Wp_region tm_mixed ?_ | refine AW_move rfl rfl ?_ | refine AW_assign rfl rfl ?_ | refine AW_load rfl ty_num rfl rfl rfl rfl ?_ | refine AW_call rfl rfl (by first | exact k3) ?_ | refine AW_eq rfl rfl rfl ?_ | refine AW_nil (fun (h : false = true) => by cases h) ?_ | refine Wp_exit ?_
  refine Wp_condT rfl ?_
  repeat first | refine Wp_seq ?_ | refine Wp_region tm_mixed ?_ | refine AW_move rfl rfl ?_ | refine AW_assign rfl rfl ?_ | refine AW_call rfl rfl (by first | exact k4) ?_ | refine AW_ne rfl rfl rfl ?_ | refine AW_nil (fun (h : false = true) => by cases h) ?_
  refine Wp_condF rfl ?_
  repeat first | refine Wp_seq ?_ | refine Wp_region tm_mixed ?_ | refine AW_move rfl rfl ?_ | refine AW_assign rfl rfl ?_ | refine AW_store ty_num rfl rfl rfl rfl rfl rfl rfl ?_ | refine AW_extract rfl rfl rfl ?_ | refine AW_alloc rfl tz_num ?_ | refine AW_call rfl rfl (by first | exact k5) ?_ | refine AW_ne rfl rfl rfl ?_ | refine AW_nil (fun (h : false = true) => by cases h) ?_ | refine Wp_skip ?_
  refine Wp_condF rfl ?_
  repeat first | refine Wp_seq ?_ | refine Wp_region tm_mixed ?_ | refine AW_move rfl rfl ?_ | refine AW_assign rfl rfl ?_ | refine AW_load rfl ty_num rfl rfl rfl rfl ?_ | refine AW_store ty_num rfl rfl rfl rfl rfl rfl rfl ?_ | refine AW_extract rfl rfl rfl ?_ | refine AW_alloc rfl tz_num ?_ | refine AW_call rfl rfl (by first | exact k6) ?_ | refine AW_ne rfl rfl rfl ?_ | refine AW_nil (fun (h : false = true) => by cases h) ?_ | refine Wp_skip ?_
  refine Wp_condF rfl ?_
  refine Wp_skip ?_
  refine Wp_seq ?_
  refine Wp_region tm_mixed ?_
  repeat first | refine AW_move rfl rfl ?_ | refine AW_assign rfl rfl ?_ | refine AW_load rfl ty_num rfl rfl rfl rfl ?_ | refine AW_store ty_num rfl rfl rfl rfl rfl rfl rfl ?_ | refine AW_extract rfl rfl rfl ?_ | refine AW_alloc rfl tz_num ?_ | refine AW_call rfl rfl (by first | exact k7) ?_ | refine AW_nil (fun (h : false = true) => by cases h) ?_
  refine Wp_seq ?_
  refine Wp_region tm_mixed ?_
  repeat first | refine AW_load rfl ty_num rfl rfl rfl rfl ?_ | refine AW_store ty_num rfl rfl rfl rfl rfl rfl rfl ?_ | refine AW_alloc rfl tz_num ?_ | refine AW_call rfl rfl (by first | exact k8) ?_ | refine AW_nil (fun (h : false = true) => by cases h) ?_
  change Wp _ _ _ _ _ _ _
  refine Wp_le (le_pubp (t := 16) (j := 5) (tm := [(2, .val (.one (.st (polyP (psR l))))), (3, .val (.one (.st (intsP (ksI l))))), (8, .val (.one (.ptr 2 0))), (13, .val (.one (.ptr 3 0))), (5, .val (.one (.ptr 1 0))), (18, .val (.one (.ptr 6 0)))])
    (bx := [(2, 24, [.b false, .st (magP [])]), (3, 24, [.b (rawOf (wholeP l : Int)).1, .st (magP (rawOf (wholeP l : Int)).2)]), (1, 24, [.b (rawOf m).1, .st (magP (rawOf m).2)]), (6, 24, [.b (rawOf (1 % m)).1, .st (magP (rawOf (1 % m)).2)])]) (nb := 7) (nums_nop (rawOf (a % m))) rfl rfl ⟨rfl, rfl, rfl, rfl, rfl, rfl, trivial⟩ ⟨rfl, rfl, rfl, rfl, trivial⟩ rfl rfl) ?_
  refine Wp_le (le_pubp (t := 5) (j := 1) (tm := [(2, .val (.one (.st (polyP (psR l))))), (3, .val (.one (.st (intsP (ksI l))))), (8, .val (.one (.ptr 2 0))), (13, .val (.one (.ptr 3 0))), (16, aAt (rawOf (a % m))), (18, .val (.one (.ptr 6 0)))])
    (bx := [(2, 24, [.b false, .st (magP [])]), (3, 24, [.b (rawOf (wholeP l : Int)).1, .st (magP (rawOf (wholeP l : Int)).2)]), (6, 24, [.b (rawOf (1 % m)).1, .st (magP (rawOf (1 % m)).2)])]) (nb := 7) (nums_nop (rawOf m)) rfl rfl ⟨rfl, rfl, rfl, rfl, rfl, rfl, trivial⟩ ⟨rfl, rfl, rfl, trivial⟩ rfl rfl) ?_
  refine Wp_le (le_pubp (t := 18) (j := 6) (tm := [(2, .val (.one (.st (polyP (psR l))))), (3, .val (.one (.st (intsP (ksI l))))), (8, .val (.one (.ptr 2 0))), (13, .val (.one (.ptr 3 0))), (16, aAt (rawOf (a % m))), (5, aAt (rawOf m))])
    (bx := [(2, 24, [.b false, .st (magP [])]), (3, 24, [.b (rawOf (wholeP l : Int)).1, .st (magP (rawOf (wholeP l : Int)).2)])]) (nb := 7) (nums_nop (rawOf (1 % m))) rfl rfl ⟨rfl, rfl, rfl, rfl, rfl, rfl, trivial⟩ ⟨rfl, rfl, trivial⟩ rfl rfl) ?_
  rw [hN] at k9
  repeat first | refine Wp_seq ?_ | refine Wp_region tm_mixed ?_ | refine AW_move rfl rfl ?_ | refine AW_assign rfl rfl ?_ | refine AW_load rfl ty_num rfl rfl rfl rfl ?_ | refine AW_not rfl rfl ?_ | refine AW_quiet rfl (q_mkFunc (ps := [atN (rawOf (a % m)), atN (rawOf m), atN (rawOf (1 % m))]) ⟨rfl, rfl, rfl, trivial⟩) ?_ | refine AW_callc rfl rfl clo_is rfl k9 ?_ | refine AW_nil (fun (h : false = true) => by cases h) ?_
  refine Wp_condT rfl ?_
  repeat first | refine Wp_seq ?_ | refine Wp_region tm_mixed ?_ | refine AW_assign rfl rfl ?_ | refine AW_store ty_num rfl rfl rfl rfl rfl rfl rfl ?_ | refine AW_build rfl tb_num rfl ?_ | refine AW_nil (fun (h : false = true) => by cases h) ?_ | refine Wp_ret ?_
  exact ⟨.inr rfl, _, .cell _ _ _ _ _ _ _ _ _ _ _ ty_num rfl rfl rfl (.tmp _ _ _ _ rfl .nil), rfl⟩
set_option maxHeartbeats 4000000 in
set_option maxRecDepth 100000 in
theorem ct_Order_ok (a m : Int) (l : List (Nat × Nat)) (ha : lc a.natAbs ≤ 90) (hm : lc m.natAbs ≤ 90) (h0 : 0 < m) (h2 : ∀ q ∈ l, 2 ≤ q.1) (h64 : ∀ q ∈ l, q.2 ≤ 64) (hl : l.length ≤ 1000) (hW : lc (wholeP l) ≤ 1000) (hall : ∀ x ∈ [rawOf a, rawOf m] ++ psR l, rightInt x = true) (hg : gcdZ a m = 1) (hN : isZ (a % m) m (wholeP l) = true) :
    Ct Tryz.prog 22 [aZ a, aZ m, .val (.one (.st (polyP (psR l)))), .val (.one (.st (intsP (ksI l))))] (.tup [zZ (downs (isZ (a % m) m) l (wholeP l) : Int), aI 0]) := by
  refine ct_of_wp [.cell 8 24, .tmp 9] [(0, aZ a), (1, aZ m), (2, .val (.one (.st (polyP (psR l))))), (3, .val (.one (.st (intsP (ksI l)))))] 116 Tryz.func22 rfl rfl rfl rfl rfl rfl rfl rfl ?_
  intro G0 w0
  obtain ⟨T, hT⟩ : ∃ T, downs (isZ (a % m) m) l (wholeP l) = T := ⟨_, rfl⟩
  rw [hT]
  have k3 := ct_pmodulus (rawOf m)
  rw [muE_pos h0] at k3
  have hpl := psR_len l
  have k4 := ct_lists (psR l) (ksI l) (by omega)
  rw [listE_ok h2 h64] at k4
  have k5 := ct_whole l (fun q hq => by have := h2 q hq; omega) (fun q hq => by have := h64 q hq; omega) hl hW
  have k6 := ct_pInverse a m ha hm h0 hg
  have k7 := ct_ModP a m (by omega) (by omega) h0
  have k8 := ct_unit m (by omega) h0
  have hr1 := Int.emod_nonneg a (show m ≠ 0 by omega)
  have hr2 := Int.emod_lt_of_pos a h0
  have lr : lc (a % m).natAbs ≤ 90 := Nat.le_trans (lc_mono (by omega)) hm
  have k9 := ct_is (a % m) m (wholeP l) lr hm h0 (by omega)
  have hlen : [rawOf a, rawOf m].length + (psR l).length ≤ 100000 := by simp; omega
  have kD := ct_limbOf 1 (by decide) (by decide)
  repeat first | refine Wp_seq ?_ | refine Wp_region tm_mixed ?_ | refine AW_move rfl rfl ?_ | refine AW_assign rfl rfl ?_ | refine AW_load rfl ty_num rfl rfl rfl rfl ?_ | refine AW_alloc rfl tz_num ?_ | refine AW_box rfl rfl (row := true) rfl (fun h => by cases h) rfl ?_ | refine AW_quiet rfl (q_lenPoly rfl rfl tu_nums) ?_ | refine AW_quiet rfl (q_buildFull rfl rfl rfl tu_nums ti_num ti_size ti_zero (.cons _ _ _ _ _ rfl (.cons _ _ _ _ _ rfl (.nil _)))) ?_ | refine AW_quiet rfl (q_appPoly (n := 2) (xs := [rawOf a, rawOf m]) rfl (by decide) rfl rfl hlen) ?_ | refine AW_nil (fun (h : false = true) => by cases h) ?_ | refine Wp_block ?_
  refine Wp_loop (fun i : Nat => ⟨[(2, .val (.one (.st (polyP (psR l))))), (3, .val (.one (.st (intsP (ksI l))))), (4, .val (.one (.ptr 0 0))), (5, .val (.one (.ptr 1 0))), (8, .val (.one (.ptr 2 0))), (29, .val (.one (.st (polyP ([rawOf a, rawOf m] ++ psR l))))), (30, .val (aI (([rawOf a, rawOf m] ++ psR l).length : Int))), (31, .val (aI (i : Int)))],
    [(0, 24, [.b (rawOf a).1, .st (magP (rawOf a).2)]), (1, 24, [.b (rawOf m).1, .st (magP (rawOf m).2)]), (2, 24, [.b false, .st (magP [])])], 3⟩) (fun i => i ≤ ([rawOf a, rawOf m] ++ psR l).length) (fun i => ([rawOf a, rawOf m] ++ psR l).length - i) 0 (Nat.zero_le _) (le_of ⟨rfl, rfl, rfl, rfl, rfl, rfl, rfl, rfl, trivial⟩ ⟨rfl, rfl, rfl, trivial⟩ rfl) ?_
  intro i hi
  repeat first | refine Wp_seq ?_ | refine Wp_region tm_mixed ?_ | refine AW_quiet rfl (q_lt rfl rfl) ?_ | refine AW_nil (fun (h : false = true) => by cases h) ?_
  refine Wp_cond rfl (fun hc => ?_) (fun hc => ?_)
  · have hlt : i < ([rawOf a, rawOf m] ++ psR l).length := by have := of_decide_eq_true hc; omega
    obtain ⟨x, hx⟩ : ∃ x, ([rawOf a, rawOf m] ++ psR l)[i]? = some x := ⟨_, List.getElem?_eq_getElem hlt⟩
    have kR := ct_Right x
    rw [hall x (List.mem_of_getElem? hx)] at kR
    have hA := lt_facts (k := i) (by have : ([rawOf a, rawOf m] ++ psR l).length = [rawOf a, rawOf m].length + (psR l).length := List.length_append; omega)
    repeat first | refine Wp_seq ?_ | refine Wp_region tm_mixed ?_ | refine AW_load rfl ty_num rfl rfl rfl rfl ?_ | refine AW_store ty_num rfl rfl rfl rfl rfl rfl rfl ?_ | refine AW_alloc rfl tz_num ?_ | refine AW_not rfl rfl ?_ | refine AW_call rfl rfl (by first | exact kR) ?_ | refine AW_quiet rfl (q_polyAt rfl rfl hx tu_nums ts_num) ?_ | refine AW_quiet rfl (q_loadP rfl ty_num) ?_ | refine AW_nil (fun (h : false = true) => by cases h) ?_ | refine Wp_block ?_ | refine Wp_skip ?_
    refine Wp_condF rfl ?_
    repeat first | refine Wp_region tm_mixed ?_ | refine AW_move rfl rfl ?_ | refine AW_quiet rfl (q_addE rfl rfl hA) ?_ | refine AW_nil (fun (h : false = true) => by cases h) ?_ | refine Wp_skip ?_
    exact ⟨i + 1, hlt, le_of ⟨rfl, rfl, rfl, rfl, rfl, rfl, rfl, rfl, trivial⟩ ⟨rfl, rfl, rfl, trivial⟩ rfl, by show ([rawOf a, rawOf m] ++ psR l).length - (i + 1) < ([rawOf a, rawOf m] ++ psR l).length - i; omega⟩
  repeat first | refine Wp_seq ?_ | refine Wp_region tm_mixed ?_ | refine AW_move rfl rfl ?_ | refine AW_assign rfl rfl ?_ | refine AW_load rfl ty_num rfl rfl rfl rfl ?_ | refine AW_call rfl rfl (by first | exact k3) ?_ | refine AW_eq rfl rfl rfl ?_ | refine AW_nil (fun (h : false = true) => by cases h) ?_ | refine Wp_exit ?_
  refine Wp_condT rfl ?_
  repeat first | refine Wp_seq ?_ | refine Wp_region tm_mixed ?_ | refine AW_move rfl rfl ?_ | refine AW_assign rfl rfl ?_ | refine AW_call rfl rfl (by first | exact k4) ?_ | refine AW_ne rfl rfl rfl ?_ | refine AW_nil (fun (h : false = true) => by cases h) ?_
  refine Wp_condF rfl ?_
  repeat first | refine Wp_seq ?_ | refine Wp_region tm_mixed ?_ | refine AW_move rfl rfl ?_ | refine AW_assign rfl rfl ?_ | refine AW_store ty_num rfl rfl rfl rfl rfl rfl rfl ?_ | refine AW_extract rfl rfl rfl ?_ | refine AW_alloc rfl tz_num ?_ | refine AW_call rfl rfl (by first | exact k5) ?_ | refine AW_ne rfl rfl rfl ?_ | refine AW_nil (fun (h : false = true) => by cases h) ?_ | refine Wp_skip ?_
  refine Wp_condF rfl ?_
  repeat first | refine Wp_seq ?_ | refine Wp_region tm_mixed ?_ | refine AW_move rfl rfl ?_ | refine AW_assign rfl rfl ?_ | refine AW_load rfl ty_num rfl rfl rfl rfl ?_ | refine AW_store ty_num rfl rfl rfl rfl rfl rfl rfl ?_ | refine AW_extract rfl rfl rfl ?_ | refine AW_alloc rfl tz_num ?_ | refine AW_call rfl rfl (by first | exact k6) ?_ | refine AW_ne rfl rfl rfl ?_ | refine AW_nil (fun (h : false = true) => by cases h) ?_ | refine Wp_skip ?_
  refine Wp_condF rfl ?_
  refine Wp_skip ?_
  refine Wp_seq ?_
  refine Wp_region tm_mixed ?_
  repeat first | refine AW_move rfl rfl ?_ | refine AW_assign rfl rfl ?_ | refine AW_load rfl ty_num rfl rfl rfl rfl ?_ | refine AW_store ty_num rfl rfl rfl rfl rfl rfl rfl ?_ | refine AW_extract rfl rfl rfl ?_ | refine AW_alloc rfl tz_num ?_ | refine AW_call rfl rfl (by first | exact k7) ?_ | refine AW_nil (fun (h : false = true) => by cases h) ?_
  refine Wp_seq ?_
  refine Wp_region tm_mixed ?_
  repeat first | refine AW_load rfl ty_num rfl rfl rfl rfl ?_ | refine AW_store ty_num rfl rfl rfl rfl rfl rfl rfl ?_ | refine AW_alloc rfl tz_num ?_ | refine AW_call rfl rfl (by first | exact k8) ?_ | refine AW_nil (fun (h : false = true) => by cases h) ?_
  change Wp _ _ _ _ _ _ _
  refine Wp_le (le_pubp (t := 16) (j := 5) (tm := [(2, .val (.one (.st (polyP (psR l))))), (3, .val (.one (.st (intsP (ksI l))))), (8, .val (.one (.ptr 2 0))), (13, .val (.one (.ptr 3 0))), (5, .val (.one (.ptr 1 0))), (18, .val (.one (.ptr 6 0)))])
    (bx := [(2, 24, [.b false, .st (magP [])]), (3, 24, [.b (rawOf (wholeP l : Int)).1, .st (magP (rawOf (wholeP l : Int)).2)]), (1, 24, [.b (rawOf m).1, .st (magP (rawOf m).2)]), (6, 24, [.b (rawOf (1 % m)).1, .st (magP (rawOf (1 % m)).2)])]) (nb := 7) (nums_nop (rawOf (a % m))) rfl rfl ⟨rfl, rfl, rfl, rfl, rfl, rfl, trivial⟩ ⟨rfl, rfl, rfl, rfl, trivial⟩ rfl rfl) ?_
  refine Wp_le (le_pubp (t := 5) (j := 1) (tm := [(2, .val (.one (.st (polyP (psR l))))), (3, .val (.one (.st (intsP (ksI l))))), (8, .val (.one (.ptr 2 0))), (13, .val (.one (.ptr 3 0))), (16, aAt (rawOf (a % m))), (18, .val (.one (.ptr 6 0)))])
    (bx := [(2, 24, [.b false, .st (magP [])]), (3, 24, [.b (rawOf (wholeP l : Int)).1, .st (magP (rawOf (wholeP l : Int)).2)]), (6, 24, [.b (rawOf (1 % m)).1, .st (magP (rawOf (1 % m)).2)])]) (nb := 7) (nums_nop (rawOf m)) rfl rfl ⟨rfl, rfl, rfl, rfl, rfl, rfl, trivial⟩ ⟨rfl, rfl, rfl, trivial⟩ rfl rfl) ?_
  refine Wp_le (le_pubp (t := 18) (j := 6) (tm := [(2, .val (.one (.st (polyP (psR l))))), (3, .val (.one (.st (intsP (ksI l))))), (8, .val (.one (.ptr 2 0))), (13, .val (.one (.ptr 3 0))), (16, aAt (rawOf (a % m))), (5, aAt (rawOf m))])
    (bx := [(2, 24, [.b false, .st (magP [])]), (3, 24, [.b (rawOf (wholeP l : Int)).1, .st (magP (rawOf (wholeP l : Int)).2)])]) (nb := 7) (nums_nop (rawOf (1 % m))) rfl rfl ⟨rfl, rfl, rfl, rfl, rfl, rfl, trivial⟩ ⟨rfl, rfl, trivial⟩ rfl rfl) ?_
  rw [hN] at k9
  repeat first | refine Wp_seq ?_ | refine Wp_region tm_mixed ?_ | refine AW_move rfl rfl ?_ | refine AW_assign rfl rfl ?_ | refine AW_load rfl ty_num rfl rfl rfl rfl ?_ | refine AW_not rfl rfl ?_ | refine AW_quiet rfl (q_mkFunc (ps := [atN (rawOf (a % m)), atN (rawOf m), atN (rawOf (1 % m))]) ⟨rfl, rfl, rfl, trivial⟩) ?_ | refine AW_callc rfl rfl clo_is rfl k9 ?_ | refine AW_nil (fun (h : false = true) => by cases h) ?_
  refine Wp_condF rfl ?_
  repeat first | refine Wp_seq ?_ | refine Wp_region tm_mixed ?_ | refine AW_move rfl rfl ?_ | refine AW_quiet rfl (q_lenPoly rfl rfl tu_nums) ?_ | refine AW_nil (fun (h : false = true) => by cases h) ?_ | refine Wp_block ?_ | refine Wp_skip ?_
  rw [hpl]
  refine Wp_loop (fun p : Nat × Nat => ⟨[(3, .val (.one (.st (intsP (ksI l))))), (8, .val (.one (.ptr 2 0))), (13, .val (.one (.ptr 3 0))), (19, .val (.one (.st (cloP 73 [atN (rawOf (a % m)), atN (rawOf m), atN (rawOf (1 % m))])))), (85, .val (.one (.st (polyP (psR l))))), (86, .val (aI (l.length : Int))), (87, .val (aI (p.1 : Int)))],
    [(2, 24, [.b false, .st (magP [])]), (3, 24, [.b (rawOf (p.2 : Int)).1, .st (magP (rawOf (p.2 : Int)).2)])], 7⟩) (fun p => p.1 ≤ l.length ∧ p.2 ≤ wholeP l ∧ downs (isZ (a % m) m) (l.drop p.1) p.2 = T) (fun p => l.length - p.1) (0, wholeP l) ⟨Nat.zero_le _, Nat.le_refl _, hT⟩ (le_of ⟨rfl, rfl, rfl, rfl, rfl, rfl, rfl, trivial⟩ ⟨rfl, rfl, trivial⟩ rfl) ?_
  rintro ⟨i, n⟩ ⟨hi, hn, hd⟩
  dsimp only at hi hn hd ⊢
  repeat first | refine Wp_seq ?_ | refine Wp_region tm_mixed ?_ | refine AW_quiet rfl (q_lt rfl rfl) ?_ | refine AW_nil (fun (h : false = true) => by cases h) ?_
  refine Wp_cond rfl (fun hc => ?_) (fun hc => ?_)
  · have hlt : i < l.length := by have := of_decide_eq_true hc; omega
    obtain ⟨q, hq⟩ : ∃ q, l[i]? = some q := ⟨_, List.getElem?_eq_getElem hlt⟩
    have hp := psR_at hq
    have hk := ksI_at hq
    have hq64 := h64 q (List.mem_of_getElem? hq)
    have hq2 := h2 q (List.mem_of_getElem? hq)
    have hA := lt_facts (k := i) (by omega)
    rw [downs_next _ hq] at hd
    repeat first | refine Wp_seq ?_ | refine Wp_region tm_mixed ?_ | refine AW_move rfl rfl ?_ | refine AW_assign rfl rfl ?_ | refine AW_store ty_num rfl rfl rfl rfl rfl rfl rfl ?_ | refine AW_alloc rfl tz_num ?_ | refine AW_quiet rfl (q_polyAt rfl rfl hp tu_nums ts_num) ?_ | refine AW_quiet rfl (q_loadP rfl ty_num) ?_ | refine AW_quiet rfl (q_intAt rfl rfl hk tu_ints ts_int) ?_ | refine AW_quiet rfl (q_intLoad rfl ty_int) ?_ | refine AW_nil (fun (h : false = true) => by cases h) ?_ | refine Wp_block ?_ | refine Wp_skip ?_
    refine Wp_loop (fun p : Nat × Nat => ⟨[(3, .val (.one (.st (intsP (ksI l))))), (8, .val (.one (.ptr 2 0))), (13, .val (.one (.ptr 3 0))), (19, .val (.one (.st (cloP 73 [atN (rawOf (a % m)), atN (rawOf m), atN (rawOf (1 % m))])))), (21, .val (.one (.ptr 7 0))), (85, .val (.one (.st (polyP (psR l))))), (86, .val (aI (l.length : Int))), (87, .val (aI (i : Int))), (95, .val (aI (q.2 : Int))), (96, .val (aI (p.1 : Int)))],
      [(2, 24, [.b false, .st (magP [])]), (3, 24, [.b (rawOf (p.2 : Int)).1, .st (magP (rawOf (p.2 : Int)).2)]), (7, 24, [.b (rawOf (q.1 : Int)).1, .st (magP (rawOf (q.1 : Int)).2)])], 8⟩) (fun p => p.1 ≤ q.2 ∧ p.2 ≤ wholeP l ∧ downs (isZ (a % m) m) (l.drop (i + 1)) (down1 (isZ (a % m) m) q.1 (q.2 - p.1) p.2) = T) (fun p => q.2 - p.1) (0, n) ⟨Nat.zero_le _, hn, hd⟩ (le_of ⟨rfl, rfl, rfl, rfl, rfl, rfl, rfl, rfl, rfl, rfl, trivial⟩ ⟨rfl, rfl, rfl, trivial⟩ rfl) ?_
    rintro ⟨k, n⟩ ⟨hk2, hn, hd⟩
    dsimp only at hk2 hn hd ⊢
    repeat first | refine Wp_seq ?_ | refine Wp_region tm_mixed ?_ | refine AW_quiet rfl (q_lt rfl rfl) ?_ | refine AW_nil (fun (h : false = true) => by cases h) ?_
    refine Wp_cond rfl (fun hf => ?_) (fun hf => ?_)
    · have hkl : k < q.2 := by have := of_decide_eq_true hf; omega
      have b3 := wholeP_prime (fun q hq => by have := h2 q hq; omega) hq (by omega)
      have ln : lc n ≤ 1000 := Nat.le_trans (lc_mono hn) hW
      have lq : lc q.1 ≤ 1000 := Nat.le_trans (lc_mono b3) hW
      have kF := ct_Floor (n : Int) (q.1 : Int) (by rw [Int.natAbs_natCast]; omega) (by rw [Int.natAbs_natCast]; omega) (by omega)
      rw [fdiv_nat] at kF
      have hdn : n / q.1 ≤ n := Nat.div_le_self _ _
      have kI := ct_is (a % m) m (n / q.1) lr hm h0 (by have := lc_mono hdn; omega)
      have es : q.2 - k = (q.2 - (k + 1)) + 1 := by omega
      rw [es] at hd
      simp only [down1] at hd
      have hB := lt_facts (k := k) (by omega)
      cases hz : isZ (a % m) m (n / q.1) with
      | true =>
        rw [hz] at kI hd
        rw [if_pos rfl] at hd
        repeat first | refine Wp_seq ?_ | refine Wp_region tm_mixed ?_ | refine AW_move rfl rfl ?_ | refine AW_assign rfl rfl ?_ | refine AW_load rfl ty_num rfl rfl rfl rfl ?_ | refine AW_store ty_num rfl rfl rfl rfl rfl rfl rfl ?_ | refine AW_extract rfl rfl rfl ?_ | refine AW_alloc rfl tz_num ?_ | refine AW_not rfl rfl ?_ | refine AW_call rfl rfl (by first | exact kF) ?_ | refine AW_callc rfl rfl clo_is rfl kI ?_ | refine AW_nil (fun (h : false = true) => by cases h) ?_ | refine Wp_block ?_ | refine Wp_skip ?_
        refine Wp_condF rfl ?_
        repeat first | refine Wp_region tm_mixed ?_ | refine AW_move rfl rfl ?_ | refine AW_load rfl ty_num rfl rfl rfl rfl ?_ | refine AW_store ty_num rfl rfl rfl rfl rfl rfl rfl ?_ | refine AW_quiet rfl (q_addE rfl rfl hB) ?_ | refine AW_nil (fun (h : false = true) => by cases h) ?_ | refine Wp_skip ?_
        exact ⟨(k + 1, n / q.1), ⟨hkl, by show n / q.1 ≤ wholeP l; omega, hd⟩, le_of ⟨rfl, rfl, rfl, rfl, rfl, rfl, rfl, rfl, rfl, rfl, trivial⟩ ⟨rfl, rfl, rfl, trivial⟩ rfl, by show q.2 - (k + 1) < q.2 - k; omega⟩
      | false =>
        rw [hz] at kI hd
        rw [if_neg (by decide)] at hd
        repeat first | refine Wp_seq ?_ | refine Wp_region tm_mixed ?_ | refine AW_move rfl rfl ?_ | refine AW_assign rfl rfl ?_ | refine AW_load rfl ty_num rfl rfl rfl rfl ?_ | refine AW_store ty_num rfl rfl rfl rfl rfl rfl rfl ?_ | refine AW_extract rfl rfl rfl ?_ | refine AW_alloc rfl tz_num ?_ | refine AW_not rfl rfl ?_ | refine AW_call rfl rfl (by first | exact kF) ?_ | refine AW_callc rfl rfl clo_is rfl kI ?_ | refine AW_nil (fun (h : false = true) => by cases h) ?_ | refine Wp_block ?_ | refine Wp_skip ?_
        refine Wp_condT rfl ?_
        repeat first | refine Wp_region tm_mixed ?_ | refine AW_move rfl rfl ?_ | refine AW_quiet rfl (q_addE rfl rfl hA) ?_ | refine AW_nil (fun (h : false = true) => by cases h) ?_ | refine Wp_exit ?_
        exact ⟨(i + 1, n), ⟨hlt, hn, hd⟩, le_of ⟨rfl, rfl, rfl, rfl, rfl, rfl, rfl, trivial⟩ ⟨rfl, rfl, trivial⟩ rfl, by show l.length - (i + 1) < l.length - i; omega⟩
    · have hkl : k = q.2 := by have := of_decide_eq_false hf; omega
      subst hkl
      rw [Nat.sub_self] at hd
      repeat first | refine Wp_region tm_mixed ?_ | refine AW_move rfl rfl ?_ | refine AW_quiet rfl (q_addE rfl rfl hA) ?_ | refine AW_nil (fun (h : false = true) => by cases h) ?_ | refine Wp_exit ?_
      exact ⟨(i + 1, n), ⟨hlt, hn, hd⟩, le_of ⟨rfl, rfl, rfl, rfl, rfl, rfl, rfl, trivial⟩ ⟨rfl, rfl, trivial⟩ rfl, by show l.length - (i + 1) < l.length - i; omega⟩
  · have hge : i = l.length := by have := of_decide_eq_false hc; omega
    subst hge
    rw [List.drop_eq_nil_of_le (Nat.le_refl _)] at hd
    have hd : n = T := hd
    subst hd
    have lL : (rawOf (n : Int)).2.length ≤ 17592186044416 := by rw [len_raw, Int.natAbs_natCast]; have := lc_mono hn; omega
    repeat first | refine Wp_seq ?_ | refine Wp_region tm_mixed ?_ | refine AW_assign rfl rfl ?_ | refine AW_store ty_num rfl rfl rfl rfl rfl rfl rfl ?_ | refine AW_build rfl tb_num rfl ?_ | refine AW_fieldAddr rfl tf_mag rfl rfl ?_ | refine AW_load rfl ty_mag rfl rfl rfl rfl ?_ | refine AW_quiet rfl (q_copyLimbs rfl rfl lL) ?_ | refine AW_nil (fun (h : false = true) => by cases h) ?_ | refine Wp_exit ?_ | refine Wp_ret ?_
    exact ⟨.inr rfl, _, .cell _ _ _ _ _ _ _ _ _ _ _ ty_num rfl rfl rfl (.tmp _ _ _ _ rfl .nil), by rw [nat_raw]; rfl⟩
end Go.Proofs.YtjbagikfogejnaaGreatDoor
/- The document's answer for powers (rosetteref21), by the abstract machine: rests, powers, inverses. -/
namespace Go.Proofs.YtjbagikfogejnaaGreatDoor
open Go.RowKit Go.Deep
theorem ct_RightInt (x : Raw) : Ct Tryz.prog 53 [aNum x] (.val (aB (rightInt x))) :=
  ct1 Tryz.func53 rfl rfl rfl fun w u h => by
    obtain ⟨A, l, c, rfl, h3, h4, h5⟩ := h
    refine (ref_rightInt x.1 A l c x.2 w (Nat.le_refl _) h5 h3).mono ?_
    rintro e w' ⟨rfl, hb⟩
    exact ⟨_, rfl, fun _ _ => rfl, hb⟩
theorem ct_NatOf (x : Nat) (hx : x < W64) : Ct Tryz.prog 115 [.val (.one (.i .u64 (x : Int)))] (aN x) where
  enters := fun vals w => enters_of Tryz.func115 rfl rfl vals w
  nop := rfl
  calls := by
    intro G β w vals _ ha
    rcases vals with _ | ⟨u, _ | ⟨v, vs⟩⟩
    · exact ha.elim
    · obtain ⟨hu, _⟩ := ha
      have hu : u = .int .u64 (x : Int) := hu
      subst hu
      refine (ref_of x w hx).mono ?_
      rintro e w' ⟨v, rfl, h1, h2⟩
      exact ⟨v, rfl, NatAt.of_own h1, h2⟩
    · exact ha.2.elim
set_option maxRecDepth 100000 in
theorem ct_RGcd (a b : Nat) (ha : lc a ≤ 1000000) (hb : lc b ≤ 1000000) : Ct Tryz.prog 102 [aN a, aN b] (aN (Nat.gcd a b)) := by
  refine ct_of_wp [.tmp 4] [(0, aN a), (1, aN b)] 25 Tryz.func102 rfl rfl rfl rfl rfl rfl rfl rfl ?_
  intro G0 w0
  have k1 := ct_NatTrim a (by omega)
  have k2 := ct_NatTrim b (by omega)
  repeat first | refine Wp_seq ?_ | refine Wp_region tm_mixed ?_ | refine AW_move rfl rfl ?_ | refine AW_assign rfl rfl ?_ | refine AW_call rfl rfl (by first | exact k1 | exact k2) ?_ | refine AW_nil (fun (h : false = true) => by cases h) ?_ | refine Wp_block ?_
  refine Wp_loop (fun p : Nat × Nat => ⟨[(5, aN p.1), (6, aN p.2)], [], 0⟩) (fun p => Nat.gcd p.1 p.2 = Nat.gcd a b ∧ lc p.1 ≤ 1000000 ∧ lc p.2 ≤ 1000000) (fun p => p.2) (a, b) ⟨rfl, ha, hb⟩ (le_of ⟨rfl, rfl, trivial⟩ trivial rfl) ?_
  rintro ⟨x, y⟩ ⟨hg, hx, hy⟩
  dsimp only at hg hx hy ⊢
  repeat first | refine Wp_seq ?_ | refine Wp_region tm_mixed ?_ | refine AW_move rfl rfl ?_ | refine AW_len rfl rfl Tryz.underlying22 ?_ | refine AW_gt rfl rfl rfl ?_ | refine AW_nil (fun (h : false = true) => by cases h) ?_
  refine Wp_cond rfl (fun hc => ?_) (fun hc => ?_)
  · have hn : y ≠ 0 := by
      intro e
      subst e
      have h := of_decide_eq_true hc
      rw [limbs_zero] at h
      simp at h
    have k3 := ct_NatDiv x y (by omega) (by omega) hn
    repeat first | refine Wp_seq ?_ | refine Wp_region tm_mixed ?_ | refine AW_move rfl rfl ?_ | refine AW_assign rfl rfl ?_ | refine AW_extract rfl rfl rfl ?_ | refine AW_call rfl rfl (by first | exact k3) ?_ | refine AW_nil (fun (h : false = true) => by cases h) ?_ | refine Wp_block ?_ | refine Wp_skip ?_
    have hlt := Nat.mod_lt x (Nat.pos_of_ne_zero hn)
    exact ⟨(y, x % y), ⟨by rw [← hg, Nat.gcd_comm x y, Nat.gcd_comm y (x % y), ← Nat.gcd_rec], hy, Nat.le_trans (lc_mono (Nat.le_of_lt hlt)) hy⟩, le_of ⟨rfl, rfl, trivial⟩ trivial rfl, hlt⟩
  · have hn : y = 0 := by
      have h := of_decide_eq_false hc
      rcases Nat.eq_zero_or_pos y with e | e
      · exact e
      · have : (limbs y).length ≠ 0 := fun h' => by rw [List.length_eq_zero_iff, limbs_eq_nil] at h'; omega
        omega
    subst hn
    repeat first | refine Wp_seq ?_ | refine Wp_region tm_mixed ?_ | refine AW_move rfl rfl ?_ | refine AW_assign rfl rfl ?_ | refine AW_nil (fun (h : false = true) => by cases h) ?_ | refine Wp_exit ?_ | refine Wp_ret ?_
    rw [Nat.gcd_zero_right] at hg
    exact ⟨.inr rfl, _, .tmp _ _ _ _ rfl .nil, by rw [← hg]; rfl⟩
theorem tb_rnum : TyB Tryz.prog 122 [(0, 1), (1, 1), (2, 1)] [.b false, .st (magP []), .i .i64 0] :=
  tyB_struct (it := (Tryz.prog.info? 122).getD default) (z := .agg #[.bool false, .slice none 0 0, .int .i64 0]) [.bool false, .slice none 0 0, .int .i64 0] (by kernel_rfl) (by kernel_rfl) rfl Tryz.underlying122 (by kernel_rfl) (fun G β w => ⟨rfl, magP_nil G w, rfl, trivial⟩) (nop_all rfl)
theorem ct_TellInt (n : Nat) (hn : lc n ≤ 4096) : Ct Tryz.prog 104 [.val (.agg [.b false, .st (magP (limbs n)), .i .i64 0])] (.tup [zZ (n : Int), aB true]) where
  enters := fun vals w => enters_of Tryz.func104 rfl rfl vals w
  nop := rfl
  calls := by
    intro G β w vals _ ha
    rcases vals with _ | ⟨u, _ | ⟨v, vs⟩⟩
    · exact ha.elim
    · obtain ⟨⟨us, rfl, h⟩, _⟩ := ha
      rcases us with _ | ⟨a, _ | ⟨b, _ | ⟨c, _ | ⟨d, us⟩⟩⟩⟩
      · exact h.elim
      · exact h.2.elim
      · exact h.2.2.elim
      · obtain ⟨h1, ⟨A, l, cc, h2, h3, h4, h5⟩, h6, _⟩ := h
        have h1 : a = .bool false := h1
        have h6 : c = .int .i64 0 := h6
        subst h1 h2 h6
        have hb : nbits (n : Int).natAbs ≤ 262144 := by
          rw [Int.natAbs_natCast]
          exact Nat.le_trans (lc_le_nbits.1 hn) (by decide)
        refine (num_tellL (.agg #[.bool false, .slice A l cc, .int .i64 0]) (n : Int) w ⟨false, A, l, cc, rfl, by rw [Int.natAbs_natCast]; exact h3, h4, by rw [Int.natAbs_natCast]; exact h5, rfl⟩ (by rw [Int.natAbs_natCast]; show lc n ≤ _; omega)).mono ?_
        rintro e w' ⟨s, A', k, c', rfl, hs, hbb⟩
        obtain ⟨rfl, ho⟩ := hs hb
        obtain ⟨A2, c2, e2, hc2, hl2, _⟩ := ho.form
        cases e2
        rw [decide_eq_true hb]
        exact ⟨_, rfl, tup_ok (vs := [_, _]) ⟨ok_of_rawV ⟨_, _, _, rfl, rfl, hc2, hl2⟩, rfl, trivial⟩, hbb⟩
      · exact h.2.2.2.elim
    · exact ha.2.elim
theorem mod_lc {l m k : Nat} (h0 : m ≠ 0) (hm : lc m ≤ k) : lc (l % m) ≤ k := Nat.le_trans (lc_mono (Nat.le_of_lt (Nat.mod_lt _ (Nat.pos_of_ne_zero h0)))) hm
set_option maxRecDepth 100000 in
theorem ct_r21one : Ct Tryz.prog 69 [] (aN 1) := by
  refine ct_of_wp [.tmp 0] [] 2 Tryz.func69 rfl rfl rfl rfl rfl rfl rfl rfl ?_
  intro G0 w0
  have k1 := ct_NatOf 1 (by rw [W64_eq]; decide)
  repeat first | refine Wp_seq ?_ | refine Wp_region tm_mixed ?_ | refine AW_assign rfl rfl ?_ | refine AW_call rfl rfl (by first | exact k1) ?_ | refine AW_nil (fun (h : false = true) => by cases h) ?_ | refine Wp_ret ?_
  exact ⟨.inr rfl, _, .tmp _ _ _ _ rfl .nil, rfl⟩
set_option maxRecDepth 100000 in
theorem ct_rest (l m : Nat) (hl : lc l ≤ 1000000) (hm : lc m ≤ 1000000) (h0 : m ≠ 0) : Ct Tryz.prog 67 [aN l, aN m] (aN (l % m)) := by
  refine ct_of_wp [.tmp 4] [(0, aN l), (1, aN m)] 15 Tryz.func67 rfl rfl rfl rfl rfl rfl rfl rfl ?_
  intro G0 w0
  have k1 := ct_NatDiv l m (by omega) (by omega) h0
  have k2 := ct_NatTrim (l % m) (by have := mod_lc (l := l) h0 hm; omega)
  repeat first | refine Wp_seq ?_ | refine Wp_region tm_mixed ?_ | refine AW_move rfl rfl ?_ | refine AW_assign rfl rfl ?_ | refine AW_extract rfl rfl rfl ?_ | refine AW_call rfl rfl (by first | exact k1 | exact k2) ?_ | refine AW_nil (fun (h : false = true) => by cases h) ?_ | refine Wp_ret ?_
  exact ⟨.inr rfl, _, .tmp _ _ _ _ rfl .nil, rfl⟩
theorem modulo_pos {a : Int} {m : Nat} (h : 0 ≤ a) : (a % (m : Int)).natAbs = a.natAbs % m := by
  obtain ⟨n, rfl⟩ := Int.eq_ofNat_of_zero_le h
  rw [Int.natAbs_natCast, ← Int.natCast_emod, Int.natAbs_natCast]
theorem modulo_neg {a : Int} {m : Nat} (h0 : m ≠ 0) (h : a < 0) : (a % (m : Int)).natAbs = if a.natAbs % m = 0 then 0 else m - a.natAbs % m := by
  obtain ⟨n, hn⟩ := Int.eq_ofNat_of_zero_le (show 0 ≤ -a by omega)
  obtain rfl : a = -(n : Int) := by omega
  rw [Int.natAbs_neg, Int.natAbs_natCast]
  have d := Nat.div_add_mod n m
  have hlt := Nat.mod_lt n (Nat.pos_of_ne_zero h0)
  obtain ⟨q, hq⟩ : ∃ q, n / m = q := ⟨_, rfl⟩
  obtain ⟨r, hr⟩ : ∃ r, n % m = r := ⟨_, rfl⟩
  rw [hq, hr] at d
  rw [hr] at hlt ⊢
  have dI : (m : Int) * q + r = n := by exact_mod_cast d
  by_cases hz : r = 0
  · rw [if_pos hz]
    subst hz
    have e : -(n : Int) = m * (-(q : Int)) := by rw [Int.mul_neg]; omega
    rw [e, Int.mul_emod_right]
    rfl
  · rw [if_neg hz]
    have e : -(n : Int) = ((m : Int) - r) + m * (-(q : Int) - 1) := by rw [Int.mul_sub, Int.mul_neg]; omega
    rw [e, Int.add_mul_emod_self_left, Int.emod_eq_of_lt (by omega) (by omega)]
    omega
set_option maxRecDepth 100000 in
theorem ct_modulo (a : Int) (m : Nat) (ha : lc a.natAbs ≤ 4096) (hm : lc m ≤ 4096) (h0 : m ≠ 0) : Ct Tryz.prog 55 [aZ a, aN m] (aN (a % (m : Int)).natAbs) := by
  refine ct_of_wp [.tmp 4] [(0, aZ a), (1, aN m)] 22 Tryz.func55 rfl rfl rfl rfl rfl rfl rfl rfl ?_
  intro G0 w0
  have k1 := ct_rest a.natAbs m (by omega) (by omega) h0
  have lr := mod_lc (l := a.natAbs) h0 hm
  have hlt := Nat.mod_lt a.natAbs (Nat.pos_of_ne_zero h0)
  by_cases hn : a < 0
  · have hG : mkAV false [AC.b (rawOf a).1] = aB true := by show AV.one (.b (decide (a < 0))) = _; rw [decide_eq_true hn]
    have em := modulo_neg h0 hn
    by_cases hz : a.natAbs % m = 0
    · rw [hz] at k1
      rw [if_pos hz] at em
      have hE : decide ((0 : Int) < ((limbs 0).length : Int)) = false := decide_eq_false (by rw [limbs_zero]; simp)
      rw [em]
      repeat first | refine Wp_seq ?_ | refine Wp_region tm_mixed ?_ | refine AW_move rfl rfl ?_ | refine AW_assign rfl rfl ?_ | refine AW_box rfl rfl (row := true) rfl (fun h => by cases h) rfl ?_ | refine AW_call rfl rfl (by first | exact k1) ?_ | refine AW_fieldAddr rfl tf_neg rfl rfl ?_ | refine AW_fieldAddr rfl tf_mag rfl rfl ?_ | refine AW_load rfl ty_bool rfl rfl rfl hG ?_ | refine AW_load rfl ty_mag rfl rfl rfl rfl ?_ | refine AW_quietg rfl rfl rfl rfl (q_len rfl rfl Tryz.underlying22) ?_ | refine AW_quietg rfl rfl rfl rfl (q_gtE rfl rfl hE) ?_ | refine AW_pickT rfl rfl rfl ?_ | refine AW_moveg rfl rfl rfl rfl rfl ?_ | refine AW_nil (fun (h : false = true) => by cases h) ?_
      refine Wp_condF rfl ?_
      repeat first | refine Wp_seq ?_ | refine Wp_region tm_mixed ?_ | refine AW_move rfl rfl ?_ | refine AW_assign rfl rfl ?_ | refine AW_nil (fun (h : false = true) => by cases h) ?_ | refine Wp_skip ?_ | refine Wp_ret ?_
      exact ⟨.inr rfl, _, .tmp _ _ _ _ rfl .nil, rfl⟩
    · rw [if_neg hz] at em
      obtain ⟨r, hr⟩ : ∃ r, a.natAbs % m = r := ⟨_, rfl⟩
      rw [hr] at hz em k1 lr hlt
      have k2 := ct_NatSub m r (by omega) (by omega) (by omega)
      have k3 := ct_NatTrim (m - r) (by have := lc_mono (show m - r ≤ m by omega); omega)
      have hE : decide ((0 : Int) < ((limbs r).length : Int)) = true := decide_eq_true (by
        have : (limbs r).length ≠ 0 := fun h' => by rw [List.length_eq_zero_iff, limbs_eq_nil] at h'; omega
        omega)
      rw [em]
      repeat first | refine Wp_seq ?_ | refine Wp_region tm_mixed ?_ | refine AW_move rfl rfl ?_ | refine AW_assign rfl rfl ?_ | refine AW_box rfl rfl (row := true) rfl (fun h => by cases h) rfl ?_ | refine AW_call rfl rfl (by first | exact k1) ?_ | refine AW_fieldAddr rfl tf_neg rfl rfl ?_ | refine AW_fieldAddr rfl tf_mag rfl rfl ?_ | refine AW_load rfl ty_bool rfl rfl rfl hG ?_ | refine AW_load rfl ty_mag rfl rfl rfl rfl ?_ | refine AW_quietg rfl rfl rfl rfl (q_len rfl rfl Tryz.underlying22) ?_ | refine AW_quietg rfl rfl rfl rfl (q_gtE rfl rfl hE) ?_ | refine AW_pickT rfl rfl rfl ?_ | refine AW_moveg rfl rfl rfl rfl rfl ?_ | refine AW_nil (fun (h : false = true) => by cases h) ?_
      refine Wp_condT rfl ?_
      repeat first | refine Wp_seq ?_ | refine Wp_region tm_mixed ?_ | refine AW_move rfl rfl ?_ | refine AW_assign rfl rfl ?_ | refine AW_call rfl rfl (by first | exact k2 | exact k3) ?_ | refine AW_nil (fun (h : false = true) => by cases h) ?_ | refine Wp_ret ?_
      exact ⟨.inr rfl, _, .tmp _ _ _ _ rfl .nil, rfl⟩
  · have hG : mkAV false [AC.b (rawOf a).1] = aB false := by show AV.one (.b (decide (a < 0))) = _; rw [decide_eq_false hn]
    rw [modulo_pos (by omega)]
    repeat first | refine Wp_seq ?_ | refine Wp_region tm_mixed ?_ | refine AW_move rfl rfl ?_ | refine AW_assign rfl rfl ?_ | refine AW_box rfl rfl (row := true) rfl (fun h => by cases h) rfl ?_ | refine AW_call rfl rfl (by first | exact k1) ?_ | refine AW_fieldAddr rfl tf_neg rfl rfl ?_ | refine AW_fieldAddr rfl tf_mag rfl rfl ?_ | refine AW_load rfl ty_bool rfl rfl rfl hG ?_ | refine AW_load rfl ty_mag rfl rfl rfl rfl ?_ | refine AW_pickF rfl rfl rfl ?_ | refine AW_skip rfl rfl rfl rfl ?_ | refine AW_nil (fun (h : false = true) => by cases h) ?_
    refine Wp_condF rfl ?_
    repeat first | refine Wp_seq ?_ | refine Wp_region tm_mixed ?_ | refine AW_move rfl rfl ?_ | refine AW_assign rfl rfl ?_ | refine AW_nil (fun (h : false = true) => by cases h) ?_ | refine Wp_skip ?_ | refine Wp_ret ?_
    exact ⟨.inr rfl, _, .tmp _ _ _ _ rfl .nil, rfl⟩
set_option maxRecDepth 100000 in
theorem ct_r21modulus (x : Raw) : Ct Tryz.prog 54 [aNum x] (.val (aI (muE x))) := by
  refine ct_of_wp [.tmp 2] [(0, aNum x)] 11 Tryz.func54 rfl rfl rfl rfl rfl rfl rfl rfl ?_
  intro G0 w0
  have k1 := ct_Right x
  repeat first | refine Wp_seq ?_ | refine Wp_region tm_mixed ?_ | refine AW_assign rfl rfl ?_ | refine AW_box rfl rfl (row := true) rfl (fun h => by cases h) rfl ?_ | refine AW_fieldAddr rfl tf_mag rfl rfl ?_ | refine AW_load rfl ty_mag rfl rfl rfl rfl ?_ | refine AW_len rfl rfl Tryz.underlying22 ?_ | refine AW_eq rfl rfl rfl ?_ | refine AW_nil (fun (h : false = true) => by cases h) ?_ | refine Wp_block ?_
  refine Wp_cond rfl (fun hc => ?_) (fun hc => ?_)
  · repeat first | refine Wp_seq ?_ | refine Wp_region tm_mixed ?_ | refine AW_assign rfl rfl ?_ | refine AW_nil (fun (h : false = true) => by cases h) ?_ | refine Wp_ret ?_
    exact ⟨.inr rfl, _, .tmp _ _ _ _ rfl .nil, by unfold muE; rw [if_pos hc]; rfl⟩
  · repeat first | refine Wp_seq ?_ | refine Wp_region tm_mixed ?_ | refine AW_assign rfl rfl ?_ | refine AW_fieldAddr rfl tf_neg rfl rfl ?_ | refine AW_load rfl ty_bool rfl rfl rfl rfl ?_ | refine AW_nil (fun (h : false = true) => by cases h) ?_
    refine Wp_cond rfl (fun hd => ?_) (fun hd => ?_)
    · repeat first | refine Wp_seq ?_ | refine Wp_region tm_mixed ?_ | refine AW_assign rfl rfl ?_ | refine AW_nil (fun (h : false = true) => by cases h) ?_ | refine Wp_ret ?_
      exact ⟨.inr rfl, _, .tmp _ _ _ _ rfl .nil, by unfold muE; rw [if_neg (by rw [hc]; decide), if_pos hd]; rfl⟩
    · repeat first | refine Wp_seq ?_ | refine Wp_region tm_mixed ?_ | refine AW_assign rfl rfl ?_ | refine AW_nil (fun (h : false = true) => by cases h) ?_ | refine Wp_skip ?_ | refine Wp_ret ?_
      exact ⟨.inr rfl, _, .tmp _ _ _ _ rfl .nil, by unfold muE; rw [if_neg (by rw [hc]; decide), if_neg (by rw [hd]; decide)]; rfl⟩
theorem cmpN_is0 (a b : Nat) : ((cmpN a b == 0) : Bool) = decide (a = b) := by
  unfold cmpN
  by_cases h : a = b
  · subst h; simp
  · rw [decide_eq_false h]
    split
    · rfl
    · rw [if_pos (by omega)]; rfl
set_option maxRecDepth 100000 in
theorem ct_apart (a m : Nat) (ha : lc a ≤ 4096) (hm : lc m ≤ 4096) : Ct Tryz.prog 56 [aN a, aN m] (.val (aB (decide (Nat.gcd a m = 1)))) := by
  refine ct_of_wp [.tmp 4] [(0, aN a), (1, aN m)] 11 Tryz.func56 rfl rfl rfl rfl rfl rfl rfl rfl ?_
  intro G0 w0
  have k1 := ct_RGcd a m (by omega) (by omega)
  have lg : lc (Nat.gcd a m) ≤ 4096 := by
    have := gcd_small (a := (a : Int)) (b := (m : Int)) (k := 4096) (by rw [Int.natAbs_natCast]; exact ha) (by rw [Int.natAbs_natCast]; exact hm)
    rwa [Int.natAbs_natCast, Int.natAbs_natCast] at this
  have l1 : lc 1 ≤ 4096 := Nat.le_trans (lc_le.2 (show 1 < W64 ^ 1 by rw [W64_eq]; decide)) (by decide)
  have k2 := ct_r21one
  have k3 := ct_NatCmp (Nat.gcd a m) 1 (by omega) (by omega)
  have hE := cmpN_is0 (Nat.gcd a m) 1
  repeat first | refine Wp_seq ?_ | refine Wp_region tm_mixed ?_ | refine AW_move rfl rfl ?_ | refine AW_assign rfl rfl ?_ | refine AW_call rfl rfl (by first | exact k1 | exact k2 | exact k3) ?_ | refine AW_quiet rfl (q_eqE rfl rfl hE) ?_ | refine AW_nil (fun (h : false = true) => by cases h) ?_ | refine Wp_ret ?_
  exact ⟨.inr rfl, _, .tmp _ _ _ _ rfl .nil, rfl⟩
set_option maxRecDepth 100000 in
theorem ct_told21 (n : Nat) (hn : lc n ≤ 4096) : Ct Tryz.prog 58 [aN n] (aZ (n : Int)) := by
  refine ct_of_wp [.cell 2 24] [(0, aN n)] 12 Tryz.func58 rfl rfl rfl rfl rfl rfl rfl rfl ?_
  intro G0 w0
  have k1 := ct_TellInt n hn
  repeat first | refine Wp_seq ?_ | refine Wp_region tm_mixed ?_ | refine AW_move rfl rfl ?_ | refine AW_assign rfl rfl ?_ | refine AW_load rfl ty_num rfl rfl rfl rfl ?_ | refine AW_store ty_num rfl rfl rfl rfl rfl rfl rfl ?_ | refine AW_extract rfl rfl rfl ?_ | refine AW_alloc rfl tz_num ?_ | refine AW_call rfl rfl (by first | exact k1) ?_ | refine AW_build rfl tb_rnum rfl ?_ | refine AW_nil (fun (h : false = true) => by cases h) ?_ | refine Wp_ret ?_
  exact ⟨.inr rfl, _, .cell _ _ _ _ _ _ _ _ _ _ _ ty_num rfl rfl rfl .nil, rfl⟩
theorem powN_step (a m E s : Nat) : a ^ (E / 2 ^ s) % m = if E / 2 ^ s % 2 = 1 then (a ^ (E / 2 ^ (s + 1)) % m * (a ^ (E / 2 ^ (s + 1)) % m) % m) * a % m else a ^ (E / 2 ^ (s + 1)) % m * (a ^ (E / 2 ^ (s + 1)) % m) % m := by
  have hb := bit_more E s
  obtain ⟨q, hq⟩ : ∃ q, E / 2 ^ (s + 1) = q := ⟨_, rfl⟩
  rw [hq] at hb ⊢
  have sq : a ^ q % m * (a ^ q % m) % m = a ^ (2 * q) % m := by rw [← Nat.mul_mod, ← Nat.pow_add, Nat.two_mul]
  rw [sq]
  split
  · rename_i h
    rw [Nat.mod_mul_mod, ← Nat.pow_succ]
    congr 2
    omega
  · rename_i h
    congr 2
    omega
set_option maxHeartbeats 1000000 in
set_option maxRecDepth 100000 in
theorem ct_r21power (a E m : Nat) (ha : lc a ≤ 4096) (hE : lc E ≤ 4096) (hm : lc m ≤ 4096) (h0 : m ≠ 0) : Ct Tryz.prog 59 [aN a, aN E, aN m] (aN (a ^ E % m)) := by
  refine ct_of_wp [.tmp 6] [(0, aN a), (1, aN E), (2, aN m)] 41 Tryz.func59 rfl rfl rfl rfl rfl rfl rfl rfl ?_
  intro G0 w0
  have k1 := ct_r21one
  have l1 : lc 1 ≤ 4096 := Nat.le_trans (lc_le.2 (show 1 < W64 ^ 1 by rw [W64_eq]; decide)) (by decide)
  have k2 := ct_rest 1 m (by omega) (by omega) h0
  have k3 := ct_NatBits E (by omega)
  have hnb : nbits E ≤ 64 * lc E := nbits_le.2 (by rw [← W64_pow]; exact lc_le.1 (Nat.le_refl _))
  have hE2 : E < 2 ^ nbits E := nbits_le.1 (Nat.le_refl _)
  have e1 : 1 % m = a ^ (E / 2 ^ nbits E) % m := by rw [Nat.div_eq_of_lt hE2, Nat.pow_zero]
  rw [e1] at k2
  have hS : IntKind.i64.wrap (((nbits E : Nat) : Int) - 1) = ((nbits E : Nat) : Int) - 1 := wrap_i64_in (by omega) (by omega)
  repeat first | refine Wp_seq ?_ | refine Wp_region tm_mixed ?_ | refine AW_move rfl rfl ?_ | refine AW_assign rfl rfl ?_ | refine AW_call rfl rfl (by first | exact k1 | exact k2 | exact k3) ?_ | refine AW_quiet rfl (q_subE rfl rfl hS) ?_ | refine AW_nil (fun (h : false = true) => by cases h) ?_ | refine Wp_block ?_
  refine Wp_loop (fun j : Nat => ⟨[(0, aN a), (1, aN E), (2, aN m), (7, aN (a ^ (E / 2 ^ j) % m)), (8, .val (aI ((j : Int) - 1)))], [], 0⟩) (fun j => j ≤ nbits E) (fun j => j) (nbits E) (Nat.le_refl _) (le_of ⟨rfl, rfl, rfl, rfl, rfl, trivial⟩ trivial rfl) ?_
  intro j hj
  repeat first | refine Wp_seq ?_ | refine Wp_region tm_mixed ?_ | refine AW_move rfl rfl ?_ | refine AW_ge rfl rfl rfl ?_ | refine AW_nil (fun (h : false = true) => by cases h) ?_
  refine Wp_cond rfl (fun hc => ?_) (fun hc => ?_)
  · have hj0 : 0 < j := by have := of_decide_eq_true hc; omega
    obtain ⟨i, rfl⟩ : ∃ i, j = i + 1 := ⟨j - 1, by omega⟩
    have ei : ((i + 1 : Nat) : Int) - 1 = (i : Int) := by omega
    rw [ei]
    have hi64 : i / 64 < lc E := by omega
    obtain ⟨x, hx⟩ : ∃ x, (limbs E)[i / 64]? = some x := ⟨_, List.getElem?_eq_getElem (show i / 64 < (limbs E).length from hi64)⟩
    have hxW := getElem_small (small_limbs E) hx
    have hbit := limb_bit (small_limbs E) hx (j := i % 64) (by omega)
    rw [val_limbs, show 64 * (i / 64) + i % 64 = i by omega] at hbit
    have hstep := powN_step a m E i
    obtain ⟨X, hX⟩ : ∃ X, a ^ (E / 2 ^ (i + 1)) % m = X := ⟨_, rfl⟩
    have lX : lc X ≤ 4096 := by rw [← hX]; exact mod_lc h0 hm
    rw [hX] at hstep ⊢
    have q1 := ct_NatMul X X (by omega) (by omega)
    have q2 := ct_rest (X * X) m (by have := lc_mul X X; omega) (by omega) h0
    have lX2 : lc (X * X % m) ≤ 4096 := mod_lc h0 hm
    have q3 := ct_NatMul (X * X % m) a (by omega) (by omega)
    have q4 := ct_rest (X * X % m * a) m (by have := lc_mul (X * X % m) a; omega) (by omega) h0
    have hD : IntKind.i64.wrap ((i : Int).tdiv 64) = ((i / 64 : Nat) : Int) := by
      have : (i : Int).tdiv 64 = ((i / 64 : Nat) : Int) := rfl
      rw [this, wrap_i64_in (by omega) (by omega)]
    have hR : (i : Int).tmod 64 = ((i % 64 : Nat) : Int) := rfl
    have hC : IntKind.u64.wrap ((i % 64 : Nat) : Int) = ((i % 64 : Nat) : Int) := by rw [IntKind.wrap_u64]; omega
    have hB : ((x / 2 ^ (i % 64) : Nat) : Int).tmod 2 = ((x / 2 ^ (i % 64) % 2 : Nat) : Int) := rfl
    have hA : IntKind.i64.wrap ((i : Int) - 1) = (i : Int) - 1 := wrap_i64_in (by omega) (by omega)
    repeat first | refine Wp_seq ?_ | refine Wp_region tm_mixed ?_ | refine AW_move rfl rfl ?_ | refine AW_assign rfl rfl ?_ | refine AW_call rfl rfl (by first | exact q1 | exact q2) ?_ | refine AW_quiet rfl (q_divE rfl rfl (by decide) hD) ?_ | refine AW_quiet rfl (q_limbAt rfl rfl hi64 Tryz.underlying22 ts_limb) ?_ | refine AW_quiet rfl (q_limbLoad rfl ty_limb hx) ?_ | refine AW_quiet rfl (q_remE rfl rfl (by decide) hR) ?_ | refine AW_quiet rfl (q_convE rfl Tryz.underlying3 Tryz.underlying118 hC) ?_ | refine AW_quiet rfl (q_shr rfl rfl (by show i % 64 ≤ 64; omega) rfl) ?_ | refine AW_quiet rfl (q_remE rfl rfl (by decide) hB) ?_ | refine AW_eq rfl rfl rfl ?_ | refine AW_nil (fun (h : false = true) => by cases h) ?_ | refine Wp_block ?_ | refine Wp_skip ?_
    refine Wp_cond rfl (fun hb => ?_) (fun hb => ?_)
    · have hb1 : x / 2 ^ (i % 64) % 2 = 1 := by have := of_decide_eq_true hb; omega
      rw [if_pos (by rw [← hbit]; exact hb1)] at hstep
      rw [← hstep] at q4
      repeat first | refine Wp_region tm_mixed ?_ | refine AW_move rfl rfl ?_ | refine AW_assign rfl rfl ?_ | refine AW_call rfl rfl (by first | exact q3 | exact q4) ?_ | refine AW_quiet rfl (q_subE rfl rfl hA) ?_ | refine AW_nil (fun (h : false = true) => by cases h) ?_
      exact ⟨i, by show i ≤ nbits E; omega, le_of ⟨rfl, rfl, rfl, rfl, rfl, trivial⟩ trivial rfl, by show i < i + 1; omega⟩
    · have hb1 : ¬ x / 2 ^ (i % 64) % 2 = 1 := fun e => by have := of_decide_eq_false hb; omega
      rw [if_neg (by rw [← hbit]; exact hb1)] at hstep
      repeat first | refine Wp_region tm_mixed ?_ | refine AW_move rfl rfl ?_ | refine AW_assign rfl rfl ?_ | refine AW_quiet rfl (q_subE rfl rfl hA) ?_ | refine AW_nil (fun (h : false = true) => by cases h) ?_ | refine Wp_skip ?_
      exact ⟨i, by show i ≤ nbits E; omega, le_of ⟨rfl, rfl, rfl, by dsimp only; rw [hstep]; rfl, rfl, trivial⟩ trivial rfl, by show i < i + 1; omega⟩
  · have hj0 : j = 0 := by have := of_decide_eq_false hc; omega
    subst hj0
    repeat first | refine Wp_seq ?_ | refine Wp_region tm_mixed ?_ | refine AW_move rfl rfl ?_ | refine AW_assign rfl rfl ?_ | refine AW_nil (fun (h : false = true) => by cases h) ?_ | refine Wp_exit ?_ | refine Wp_ret ?_
    exact ⟨.inr rfl, _, .tmp _ _ _ _ rfl .nil, by rw [Nat.pow_zero, Nat.div_one]; rfl⟩
set_option maxHeartbeats 1000000 in
set_option maxRecDepth 100000 in
theorem ct_r21inverse (a m : Nat) (ha : lc a ≤ 4096) (hm : lc m ≤ 4096) (h0 : m ≠ 0) (h1 : Nat.gcd m a = 1) : Ct Tryz.prog 57 [aN a, aN m] (aN (invZ (a : Int) (m : Int)).natAbs) := by
  refine ct_of_wp [.tmp 4] [(0, aN a), (1, aN m)] 48 Tryz.func57 rfl rfl rfl rfl rfl rfl rfl rfl ?_
  intro G0 w0
  have k1 := ct_NatTrim m (by omega)
  have k2 := ct_rest a m (by omega) (by omega) h0
  have k3 := ct_r21one
  have l1 : lc 1 ≤ 4096 := Nat.le_trans (lc_le.2 (show 1 < W64 ^ 1 by rw [W64_eq]; decide)) (by decide)
  have k4 := ct_rest 1 m (by omega) (by omega) h0
  have e0 : aN 0 = .val (.one (.st (magP []))) := by show AR.val (.one (.st (magP (limbs 0)))) = _; rw [limbs_zero]
  repeat first | refine Wp_seq ?_ | refine Wp_region tm_mixed ?_ | refine AW_move rfl rfl ?_ | refine AW_assign rfl rfl ?_ | refine AW_call rfl rfl (by first | exact k1 | exact k2 | exact k3 | exact k4) ?_ | refine AW_nil (fun (h : false = true) => by cases h) ?_ | refine Wp_block ?_
  refine Wp_loop (fun p : Nat × Nat × Nat × Nat => ⟨[(1, aN m), (5, aN p.1), (6, aN p.2.1), (7, aN p.2.2.1), (8, aN p.2.2.2)], [], 0⟩) (fun p => IRow a m p.1 p.2.1 p.2.2.1 p.2.2.2 ∧ p.1 ≤ m ∧ p.2.1 < m) (fun p => p.2.1) (m, a % m, 0, 1 % m)
    ⟨IRow.start (Nat.pos_of_ne_zero h0), Nat.le_refl _, Nat.mod_lt _ (Nat.pos_of_ne_zero h0)⟩ (le_of ⟨rfl, rfl, rfl, by dsimp only; rw [e0]; rfl, rfl, trivial⟩ trivial rfl) ?_
  rintro ⟨x, y, u, v⟩ ⟨hr, hx, hy⟩
  dsimp only at hr hx hy ⊢
  have lx : lc x ≤ 4096 := Nat.le_trans (lc_mono hx) hm
  have ly : lc y ≤ 4096 := Nat.le_trans (lc_mono (Nat.le_of_lt hy)) hm
  have lu : lc u ≤ 4096 := Nat.le_trans (lc_mono (Nat.le_of_lt hr.ul)) hm
  have lv : lc v ≤ 4096 := Nat.le_trans (lc_mono (Nat.le_of_lt hr.vl)) hm
  repeat first | refine Wp_seq ?_ | refine Wp_region tm_mixed ?_ | refine AW_move rfl rfl ?_ | refine AW_len rfl rfl Tryz.underlying22 ?_ | refine AW_gt rfl rfl rfl ?_ | refine AW_nil (fun (h : false = true) => by cases h) ?_
  refine Wp_cond rfl (fun hc => ?_) (fun hc => ?_)
  · have hn : y ≠ 0 := by
      intro e
      subst e
      have h := of_decide_eq_true hc
      rw [limbs_zero] at h
      simp at h
    have hlt := Nat.mod_lt x (Nat.pos_of_ne_zero hn)
    have lq : lc (x / y) ≤ 4096 := Nat.le_trans (lc_mono (Nat.div_le_self _ _)) lx
    have q1 := ct_NatDiv x y (by omega) (by omega) hn
    have q2 := ct_NatMul (x / y) v (by omega) (by omega)
    have q3 := ct_rest (x / y * v) m (by have := lc_mul (x / y) v; omega) (by omega) h0
    have lp := mod_lc (l := x / y * v) h0 hm
    have hp := Nat.mod_lt (x / y * v) (Nat.pos_of_ne_zero h0)
    have q4 := ct_NatSub m (x / y * v % m) (by omega) (by omega) (by omega)
    have ls : lc (m - x / y * v % m) ≤ 4096 := Nat.le_trans (lc_mono (Nat.sub_le _ _)) hm
    have q5 := ct_NatAdd u (m - x / y * v % m) (by omega) (by omega)
    have q6 := ct_rest (u + (m - x / y * v % m)) m (by have := lc_natsum lu ls; omega) (by omega) h0
    have q7 := ct_NatTrim (x % y) (by have := lc_mono (Nat.le_of_lt hlt); omega)
    repeat first | refine Wp_seq ?_ | refine Wp_region tm_mixed ?_ | refine AW_move rfl rfl ?_ | refine AW_assign rfl rfl ?_ | refine AW_extract rfl rfl rfl ?_ | refine AW_call rfl rfl (by first | exact q1 | exact q2 | exact q3 | exact q4 | exact q5 | exact q6 | exact q7) ?_ | refine AW_nil (fun (h : false = true) => by cases h) ?_ | refine Wp_block ?_ | refine Wp_skip ?_
    exact ⟨(y, x % y, v, (u + (m - x / y * v % m)) % m), ⟨hr.step, by show y ≤ m; omega, by show x % y < m; omega⟩, le_of ⟨rfl, rfl, rfl, rfl, rfl, trivial⟩ trivial rfl, hlt⟩
  · have hn : y = 0 := by
      have h := of_decide_eq_false hc
      rcases Nat.eq_zero_or_pos y with e | e
      · exact e
      · have : (limbs y).length ≠ 0 := fun h' => by rw [List.length_eq_zero_iff, limbs_eq_nil] at h'; omega
        omega
    subst hn
    have hu : (invZ (a : Int) (m : Int)).natAbs = u := by rw [← hr.done h1, Int.natAbs_natCast]
    rw [hu]
    repeat first | refine Wp_seq ?_ | refine Wp_region tm_mixed ?_ | refine AW_move rfl rfl ?_ | refine AW_assign rfl rfl ?_ | refine AW_nil (fun (h : false = true) => by cases h) ?_ | refine Wp_exit ?_ | refine Wp_ret ?_
    exact ⟨.inr rfl, _, .tmp _ _ _ _ rfl .nil, rfl⟩
end Go.Proofs.YtjbagikfogejnaaGreatDoor
/- The document's answer for powers (rosetteref21), by the abstract machine: Mod, Inverse. -/
namespace Go.Proofs.YtjbagikfogejnaaGreatDoor
open Go.RowKit Go.Deep
theorem gcd_nat (a m : Int) : decide (Nat.gcd a.natAbs m.natAbs = 1) = decide (gcdZ a m = 1) := by
  rw [decide_eq_decide]
  unfold gcdZ
  omega
set_option maxHeartbeats 1000000 in
set_option maxRecDepth 100000 in
theorem ct_rInverse (a m : Int) (ha : lc a.natAbs ≤ 90) (hm : lc m.natAbs ≤ 90) (h0 : 0 < m) (h1 : gcdZ a m = 1) : Ct Tryz.prog 17 [aZ a, aZ m] (.tup [zZ (invZ a m), aI 0]) := by
  refine ct_of_wp [.cell 4 24, .tmp 5] [(0, aZ a), (1, aZ m)] 37 Tryz.func17 rfl rfl rfl rfl rfl rfl rfl rfl ?_
  intro G0 w0
  have k1 := ct_RightInt (rawOf a)
  have k2 := ct_RightInt (rawOf m)
  rw [right_raw (by omega)] at k1 k2
  have k3 := ct_r21modulus (rawOf m)
  rw [muE_pos h0] at k3
  have k4 := ct_apart a.natAbs m.natAbs (by omega) (by omega)
  rw [gcd_nat, decide_eq_true h1] at k4
  have k5 := ct_modulo a m.natAbs (by omega) (by omega) (by omega)
  rw [show (m.natAbs : Int) = m by omega] at k5
  have hr1 := Int.emod_nonneg a (show m ≠ 0 by omega)
  have hr2 := Int.emod_lt_of_pos a h0
  have lr : lc (a % m).natAbs ≤ 90 := Nat.le_trans (lc_mono (by omega)) hm
  have hg : Nat.gcd m.natAbs (a % m).natAbs = 1 := by
    have := gcdZ_base (a := a) h0
    rw [h1] at this
    unfold gcdZ at this
    rw [Nat.gcd_comm]
    omega
  have k6 := ct_r21inverse (a % m).natAbs m.natAbs (by omega) (by omega) (by omega) hg
  rw [show (m.natAbs : Int) = m by omega, show ((a % m).natAbs : Int) = a % m by omega, invZ_base] at k6
  obtain ⟨i0, i1, _⟩ := invZ_spec a m h0
  have k7 := ct_told21 (invZ a m).natAbs (by have := lc_mono (show (invZ a m).natAbs ≤ m.natAbs by omega); omega)
  rw [show ((invZ a m).natAbs : Int) = invZ a m by omega] at k7
  repeat first | refine Wp_seq ?_ | refine Wp_region tm_mixed ?_ | refine AW_move rfl rfl ?_ | refine AW_assign rfl rfl ?_ | refine AW_load rfl ty_num rfl rfl rfl rfl ?_ | refine AW_alloc rfl tz_num ?_ | refine AW_box rfl rfl (row := true) rfl (fun h => by cases h) rfl ?_ | refine AW_not rfl rfl ?_ | refine AW_call rfl rfl (by first | exact k1 | exact k2) ?_ | refine AW_pickF rfl rfl rfl ?_ | refine AW_notg rfl rfl rfl rfl rfl ?_ | refine AW_loadg rfl rfl rfl rfl ty_num rfl rfl rfl rfl ?_ | refine AW_callg rfl rfl rfl rfl rfl (by first | exact k1 | exact k2) ?_ | refine AW_nil (fun (h : false = true) => by cases h) ?_
  refine Wp_condF rfl ?_
  repeat first | refine Wp_seq ?_ | refine Wp_region tm_mixed ?_ | refine AW_move rfl rfl ?_ | refine AW_assign rfl rfl ?_ | refine AW_load rfl ty_num rfl rfl rfl rfl ?_ | refine AW_call rfl rfl (by first | exact k3) ?_ | refine AW_ne rfl rfl rfl ?_ | refine AW_nil (fun (h : false = true) => by cases h) ?_ | refine Wp_skip ?_
  refine Wp_condF rfl ?_
  repeat first | refine Wp_seq ?_ | refine Wp_region tm_mixed ?_ | refine AW_not rfl rfl ?_ | refine AW_call rfl rfl (by first | exact k4) ?_ | refine AW_fieldAddr rfl tf_mag rfl rfl ?_ | refine AW_load rfl ty_mag rfl rfl rfl rfl ?_ | refine AW_nil (fun (h : false = true) => by cases h) ?_ | refine Wp_skip ?_
  refine Wp_condF rfl ?_
  repeat first | refine Wp_seq ?_ | refine Wp_region tm_mixed ?_ | refine AW_assign rfl rfl ?_ | refine AW_load rfl ty_num rfl rfl rfl rfl ?_ | refine AW_store ty_num rfl rfl rfl rfl rfl rfl rfl ?_ | refine AW_call rfl rfl (by first | exact k5 | exact k6 | exact k7) ?_ | refine AW_fieldAddr rfl tf_mag rfl rfl ?_ | refine AW_load rfl ty_mag rfl rfl rfl rfl ?_ | refine AW_nil (fun (_ : true = true) => by kernel_rfl) ?_ | refine Wp_skip ?_ | refine Wp_ret ?_
  exact ⟨.inr rfl, _, .cell _ _ _ _ _ _ _ _ _ _ _ ty_num rfl rfl rfl (.tmp _ _ _ _ rfl .nil), rfl⟩
set_option maxRecDepth 100000 in
theorem ct_rInverse_none (a m : Int) (ha : lc a.natAbs ≤ 90) (hm : lc m.natAbs ≤ 90) (h0 : 0 < m) (h1 : gcdZ a m ≠ 1) : Ct Tryz.prog 17 [aZ a, aZ m] (.tup [aInt (false, []), aI 310]) := by
  refine ct_of_wp [.cell 4 24, .tmp 5] [(0, aZ a), (1, aZ m)] 37 Tryz.func17 rfl rfl rfl rfl rfl rfl rfl rfl ?_
  intro G0 w0
  have k1 := ct_RightInt (rawOf a)
  have k2 := ct_RightInt (rawOf m)
  rw [right_raw (by omega)] at k1 k2
  have k3 := ct_r21modulus (rawOf m)
  rw [muE_pos h0] at k3
  have k4 := ct_apart a.natAbs m.natAbs (by omega) (by omega)
  rw [gcd_nat, decide_eq_false h1] at k4
  repeat first | refine Wp_seq ?_ | refine Wp_region tm_mixed ?_ | refine AW_move rfl rfl ?_ | refine AW_assign rfl rfl ?_ | refine AW_load rfl ty_num rfl rfl rfl rfl ?_ | refine AW_alloc rfl tz_num ?_ | refine AW_box rfl rfl (row := true) rfl (fun h => by cases h) rfl ?_ | refine AW_not rfl rfl ?_ | refine AW_call rfl rfl (by first | exact k1 | exact k2) ?_ | refine AW_pickF rfl rfl rfl ?_ | refine AW_notg rfl rfl rfl rfl rfl ?_ | refine AW_loadg rfl rfl rfl rfl ty_num rfl rfl rfl rfl ?_ | refine AW_callg rfl rfl rfl rfl rfl (by first | exact k1 | exact k2) ?_ | refine AW_nil (fun (h : false = true) => by cases h) ?_
  refine Wp_condF rfl ?_
  repeat first | refine Wp_seq ?_ | refine Wp_region tm_mixed ?_ | refine AW_move rfl rfl ?_ | refine AW_assign rfl rfl ?_ | refine AW_load rfl ty_num rfl rfl rfl rfl ?_ | refine AW_call rfl rfl (by first | exact k3) ?_ | refine AW_ne rfl rfl rfl ?_ | refine AW_nil (fun (h : false = true) => by cases h) ?_ | refine Wp_skip ?_
  refine Wp_condF rfl ?_
  repeat first | refine Wp_seq ?_ | refine Wp_region tm_mixed ?_ | refine AW_not rfl rfl ?_ | refine AW_call rfl rfl (by first | exact k4) ?_ | refine AW_fieldAddr rfl tf_mag rfl rfl ?_ | refine AW_load rfl ty_mag rfl rfl rfl rfl ?_ | refine AW_nil (fun (h : false = true) => by cases h) ?_ | refine Wp_skip ?_
  refine Wp_condT rfl ?_
  repeat first | refine Wp_seq ?_ | refine Wp_region tm_mixed ?_ | refine AW_assign rfl rfl ?_ | refine AW_store ty_num rfl rfl rfl rfl rfl rfl rfl ?_ | refine AW_build rfl tb_num rfl ?_ | refine AW_nil (fun (h : false = true) => by cases h) ?_ | refine Wp_ret ?_
  exact ⟨.inr rfl, _, .cell _ _ _ _ _ _ _ _ _ _ _ ty_num rfl rfl rfl (.tmp _ _ _ _ rfl .nil), rfl⟩
set_option maxRecDepth 100000 in
theorem ct_rInverse_mod (x y : Raw) (h : (rightInt x && rightInt y) = true) (e : Int) (he : muE y = e) (hn : (e != 0) = true) : Ct Tryz.prog 17 [aNum x, aNum y] (.tup [aInt (false, []), aI e]) := by
  refine ct_of_wp [.cell 4 24, .tmp 5] [(0, aNum x), (1, aNum y)] 37 Tryz.func17 rfl rfl rfl rfl rfl rfl rfl rfl ?_
  intro G0 w0
  have k1 := ct_RightInt x
  have k2 := ct_RightInt y
  rw [Bool.and_eq_true] at h
  rw [h.1] at k1
  rw [h.2] at k2
  have k3 := ct_r21modulus y
  rw [he] at k3
  repeat first | refine Wp_seq ?_ | refine Wp_region tm_mixed ?_ | refine AW_move rfl rfl ?_ | refine AW_assign rfl rfl ?_ | refine AW_load rfl ty_num rfl rfl rfl rfl ?_ | refine AW_alloc rfl tz_num ?_ | refine AW_box rfl rfl (row := true) rfl (fun h => by cases h) rfl ?_ | refine AW_not rfl rfl ?_ | refine AW_call rfl rfl (by first | exact k1 | exact k2) ?_ | refine AW_pickF rfl rfl rfl ?_ | refine AW_notg rfl rfl rfl rfl rfl ?_ | refine AW_loadg rfl rfl rfl rfl ty_num rfl rfl rfl rfl ?_ | refine AW_callg rfl rfl rfl rfl rfl (by first | exact k1 | exact k2) ?_ | refine AW_nil (fun (h : false = true) => by cases h) ?_
  refine Wp_condF rfl ?_
  repeat first | refine Wp_seq ?_ | refine Wp_region tm_mixed ?_ | refine AW_move rfl rfl ?_ | refine AW_assign rfl rfl ?_ | refine AW_load rfl ty_num rfl rfl rfl rfl ?_ | refine AW_call rfl rfl (by first | exact k3) ?_ | refine AW_quiet rfl (q_neE rfl rfl hn) ?_ | refine AW_nil (fun (h : false = true) => by cases h) ?_ | refine Wp_skip ?_
  refine Wp_condT rfl ?_
  repeat first | refine Wp_seq ?_ | refine Wp_region tm_mixed ?_ | refine AW_move rfl rfl ?_ | refine AW_assign rfl rfl ?_ | refine AW_store ty_num rfl rfl rfl rfl rfl rfl rfl ?_ | refine AW_build rfl tb_num rfl ?_ | refine AW_nil (fun (h : false = true) => by cases h) ?_ | refine Wp_ret ?_
  exact ⟨.inr rfl, _, .cell _ _ _ _ _ _ _ _ _ _ _ ty_num rfl rfl rfl (.tmp _ _ _ _ rfl .nil), rfl⟩
set_option maxRecDepth 100000 in
theorem ct_rInverse_bad (x y : Raw) (h : (rightInt x && rightInt y) = false) : Ct Tryz.prog 17 [aNum x, aNum y] (.tup [aInt (false, []), aI 2]) := by
  refine ct_of_wp [.cell 4 24, .tmp 5] [(0, aNum x), (1, aNum y)] 37 Tryz.func17 rfl rfl rfl rfl rfl rfl rfl rfl ?_
  intro G0 w0
  have k1 := ct_RightInt x
  have k2 := ct_RightInt y
  cases hx : rightInt x with
  | false =>
    rw [hx] at k1
    repeat first | refine Wp_seq ?_ | refine Wp_region tm_mixed ?_ | refine AW_move rfl rfl ?_ | refine AW_assign rfl rfl ?_ | refine AW_load rfl ty_num rfl rfl rfl rfl ?_ | refine AW_alloc rfl tz_num ?_ | refine AW_box rfl rfl (row := true) rfl (fun h => by cases h) rfl ?_ | refine AW_not rfl rfl ?_ | refine AW_call rfl rfl (by first | exact k1) ?_ | refine AW_pickT rfl rfl rfl ?_ | refine AW_skip rfl rfl rfl rfl ?_ | refine AW_nil (fun (h : false = true) => by cases h) ?_
    refine Wp_condT rfl ?_
    repeat first | refine Wp_seq ?_ | refine Wp_region tm_mixed ?_ | refine AW_assign rfl rfl ?_ | refine AW_store ty_num rfl rfl rfl rfl rfl rfl rfl ?_ | refine AW_build rfl tb_num rfl ?_ | refine AW_nil (fun (h : false = true) => by cases h) ?_ | refine Wp_ret ?_
    exact ⟨.inr rfl, _, .cell _ _ _ _ _ _ _ _ _ _ _ ty_num rfl rfl rfl (.tmp _ _ _ _ rfl .nil), rfl⟩
  | true =>
    rw [hx] at k1 h
    rw [show rightInt y = false from h] at k2
    repeat first | refine Wp_seq ?_ | refine Wp_region tm_mixed ?_ | refine AW_move rfl rfl ?_ | refine AW_assign rfl rfl ?_ | refine AW_load rfl ty_num rfl rfl rfl rfl ?_ | refine AW_alloc rfl tz_num ?_ | refine AW_box rfl rfl (row := true) rfl (fun h => by cases h) rfl ?_ | refine AW_not rfl rfl ?_ | refine AW_call rfl rfl (by first | exact k1 | exact k2) ?_ | refine AW_pickF rfl rfl rfl ?_ | refine AW_notg rfl rfl rfl rfl rfl ?_ | refine AW_loadg rfl rfl rfl rfl ty_num rfl rfl rfl rfl ?_ | refine AW_callg rfl rfl rfl rfl rfl (by first | exact k1 | exact k2) ?_ | refine AW_nil (fun (h : false = true) => by cases h) ?_
    refine Wp_condT rfl ?_
    repeat first | refine Wp_seq ?_ | refine Wp_region tm_mixed ?_ | refine AW_assign rfl rfl ?_ | refine AW_store ty_num rfl rfl rfl rfl rfl rfl rfl ?_ | refine AW_build rfl tb_num rfl ?_ | refine AW_nil (fun (h : false = true) => by cases h) ?_ | refine Wp_ret ?_
    exact ⟨.inr rfl, _, .cell _ _ _ _ _ _ _ _ _ _ _ ty_num rfl rfl rfl (.tmp _ _ _ _ rfl .nil), rfl⟩
set_option maxHeartbeats 1000000 in
set_option maxRecDepth 100000 in
theorem ct_rMod (a e m : Int) (ha : lc a.natAbs ≤ 90) (he : lc e.natAbs ≤ 4096) (hm : lc m.natAbs ≤ 90) (h0 : 0 < m) (h1 : 0 ≤ e ∨ gcdZ a m = 1) : Ct Tryz.prog 15 [aZ a, aZ e, aZ m] (.tup [zZ (powE a e m), aI 0]) := by
  refine ct_of_wp [.cell 6 24, .tmp 7] [(0, aZ a), (1, aZ e), (2, aZ m)] 54 Tryz.func15 rfl rfl rfl rfl rfl rfl rfl rfl ?_
  intro G0 w0
  have k1 := ct_RightInt (rawOf a)
  have k2 := ct_RightInt (rawOf e)
  have k3 := ct_RightInt (rawOf m)
  rw [right_raw (by omega)] at k1 k2 k3
  have k4 := ct_r21modulus (rawOf m)
  rw [muE_pos h0] at k4
  have k5 := ct_modulo a m.natAbs (by omega) (by omega) (by omega)
  rw [show (m.natAbs : Int) = m by omega] at k5
  have hr1 := Int.emod_nonneg a (show m ≠ 0 by omega)
  have hr2 := Int.emod_lt_of_pos a h0
  have lr : lc (a % m).natAbs ≤ 90 := Nat.le_trans (lc_mono (by omega)) hm
  have hp := powE_in (a := a) (e := e) h0
  have k9 := ct_told21 (powE a e m).natAbs (by have := lc_mono (show (powE a e m).natAbs ≤ m.natAbs by omega); omega)
  rw [show ((powE a e m).natAbs : Int) = powE a e m by omega] at k9
  repeat first | refine Wp_seq ?_ | refine Wp_region tm_mixed ?_ | refine AW_move rfl rfl ?_ | refine AW_assign rfl rfl ?_ | refine AW_load rfl ty_num rfl rfl rfl rfl ?_ | refine AW_alloc rfl tz_num ?_ | refine AW_box rfl rfl (row := true) rfl (fun h => by cases h) rfl ?_ | refine AW_not rfl rfl ?_ | refine AW_call rfl rfl (by first | exact k1 | exact k2 | exact k3) ?_ | refine AW_pickF rfl rfl rfl ?_ | refine AW_notg rfl rfl rfl rfl rfl ?_ | refine AW_loadg rfl rfl rfl rfl ty_num rfl rfl rfl rfl ?_ | refine AW_callg rfl rfl rfl rfl rfl (by first | exact k1 | exact k2 | exact k3) ?_ | refine AW_nil (fun (h : false = true) => by cases h) ?_
  refine Wp_condF rfl ?_
  repeat first | refine Wp_seq ?_ | refine Wp_region tm_mixed ?_ | refine AW_move rfl rfl ?_ | refine AW_assign rfl rfl ?_ | refine AW_load rfl ty_num rfl rfl rfl rfl ?_ | refine AW_call rfl rfl (by first | exact k4) ?_ | refine AW_ne rfl rfl rfl ?_ | refine AW_nil (fun (h : false = true) => by cases h) ?_ | refine Wp_skip ?_
  refine Wp_condF rfl ?_
  repeat first | refine Wp_seq ?_ | refine Wp_region tm_mixed ?_ | refine AW_assign rfl rfl ?_ | refine AW_load rfl ty_num rfl rfl rfl rfl ?_ | refine AW_call rfl rfl (by first | exact k5) ?_ | refine AW_fieldAddr rfl tf_neg rfl rfl ?_ | refine AW_fieldAddr rfl tf_mag rfl rfl ?_ | refine AW_load rfl ty_bool rfl rfl rfl rfl ?_ | refine AW_load rfl ty_mag rfl rfl rfl rfl ?_ | refine AW_nil (fun (h : false = true) => by cases h) ?_ | refine Wp_skip ?_
  refine Wp_cond rfl (fun hc => ?_) (fun hc => ?_)
  · have hneg : e < 0 := of_decide_eq_true hc
    have hg1 : gcdZ a m = 1 := by omega
    have k6 := ct_apart a.natAbs m.natAbs (by omega) (by omega)
    rw [gcd_nat, decide_eq_true hg1] at k6
    have hg : Nat.gcd m.natAbs (a % m).natAbs = 1 := by
      have := gcdZ_base (a := a) h0
      rw [hg1] at this
      unfold gcdZ at this
      rw [Nat.gcd_comm]
      omega
    have k7 := ct_r21inverse (a % m).natAbs m.natAbs (by omega) (by omega) (by omega) hg
    rw [show (m.natAbs : Int) = m by omega, show ((a % m).natAbs : Int) = a % m by omega, invZ_base] at k7
    obtain ⟨i0, i1, _⟩ := invZ_spec a m h0
    have k8 := ct_r21power (invZ a m).natAbs e.natAbs m.natAbs (by have := lc_mono (show (invZ a m).natAbs ≤ m.natAbs by omega); omega) he (by omega) (by omega)
    have e2 : (invZ a m).natAbs ^ e.natAbs % m.natAbs = (powE a e m).natAbs := by
      have : ((((invZ a m).natAbs ^ e.natAbs % m.natAbs : Nat)) : Int) = powE a e m := by
        unfold powE
        rw [if_pos hneg, Int.natCast_emod, Int.natCast_pow, show ((invZ a m).natAbs : Int) = invZ a m by omega, show (m.natAbs : Int) = m by omega]
      omega
    rw [e2] at k8
    repeat first | refine Wp_seq ?_ | refine Wp_region tm_mixed ?_ | refine AW_not rfl rfl ?_ | refine AW_call rfl rfl (by first | exact k6) ?_ | refine AW_fieldAddr rfl tf_mag rfl rfl ?_ | refine AW_load rfl ty_mag rfl rfl rfl rfl ?_ | refine AW_nil (fun (h : false = true) => by cases h) ?_
    refine Wp_condF rfl ?_
    repeat first | refine Wp_seq ?_ | refine Wp_region tm_mixed ?_ | refine AW_move rfl rfl ?_ | refine AW_assign rfl rfl ?_ | refine AW_store ty_num rfl rfl rfl rfl rfl rfl rfl ?_ | refine AW_call rfl rfl (by first | exact k7 | exact k8 | exact k9) ?_ | refine AW_fieldAddr rfl tf_mag rfl rfl ?_ | refine AW_load rfl ty_mag rfl rfl rfl rfl ?_ | refine AW_nil (fun (h : false = true) => by cases h) ?_ | refine Wp_skip ?_ | refine Wp_ret ?_
    exact ⟨.inr rfl, _, .cell _ _ _ _ _ _ _ _ _ _ _ ty_num rfl rfl rfl (.tmp _ _ _ _ rfl .nil), rfl⟩
  · have hneg : 0 ≤ e := by have := of_decide_eq_false (show decide (e < 0) = false from hc); omega
    have k8 := ct_r21power (a % m).natAbs e.natAbs m.natAbs (by omega) he (by omega) (by omega)
    have e2 : (a % m).natAbs ^ e.natAbs % m.natAbs = (powE a e m).natAbs := by
      have : ((((a % m).natAbs ^ e.natAbs % m.natAbs : Nat)) : Int) = powE a e m := by
        unfold powE
        rw [if_neg (by omega), Int.natCast_emod, Int.natCast_pow, show ((a % m).natAbs : Int) = a % m by omega, show (m.natAbs : Int) = m by omega]
      omega
    rw [e2] at k8
    repeat first | refine Wp_seq ?_ | refine Wp_region tm_mixed ?_ | refine AW_move rfl rfl ?_ | refine AW_assign rfl rfl ?_ | refine AW_store ty_num rfl rfl rfl rfl rfl rfl rfl ?_ | refine AW_call rfl rfl (by first | exact k8 | exact k9) ?_ | refine AW_fieldAddr rfl tf_mag rfl rfl ?_ | refine AW_load rfl ty_mag rfl rfl rfl rfl ?_ | refine AW_nil (fun (h : false = true) => by cases h) ?_ | refine Wp_skip ?_ | refine Wp_ret ?_
    exact ⟨.inr rfl, _, .cell _ _ _ _ _ _ _ _ _ _ _ ty_num rfl rfl rfl (.tmp _ _ _ _ rfl .nil), rfl⟩
set_option maxRecDepth 100000 in
theorem ct_rMod_none (a e m : Int) (ha : lc a.natAbs ≤ 90) (he : lc e.natAbs ≤ 4096) (hm : lc m.natAbs ≤ 90) (h0 : 0 < m) (hneg : e < 0) (h1 : gcdZ a m ≠ 1) : Ct Tryz.prog 15 [aZ a, aZ e, aZ m] (.tup [aInt (false, []), aI 310]) := by
  refine ct_of_wp [.cell 6 24, .tmp 7] [(0, aZ a), (1, aZ e), (2, aZ m)] 54 Tryz.func15 rfl rfl rfl rfl rfl rfl rfl rfl ?_
  intro G0 w0
  have k1 := ct_RightInt (rawOf a)
  have k2 := ct_RightInt (rawOf e)
  have k3 := ct_RightInt (rawOf m)
  rw [right_raw (by omega)] at k1 k2 k3
  have k4 := ct_r21modulus (rawOf m)
  rw [muE_pos h0] at k4
  have k5 := ct_modulo a m.natAbs (by omega) (by omega) (by omega)
  repeat first | refine Wp_seq ?_ | refine Wp_region tm_mixed ?_ | refine AW_move rfl rfl ?_ | refine AW_assign rfl rfl ?_ | refine AW_load rfl ty_num rfl rfl rfl rfl ?_ | refine AW_alloc rfl tz_num ?_ | refine AW_box rfl rfl (row := true) rfl (fun h => by cases h) rfl ?_ | refine AW_not rfl rfl ?_ | refine AW_call rfl rfl (by first | exact k1 | exact k2 | exact k3) ?_ | refine AW_pickF rfl rfl rfl ?_ | refine AW_notg rfl rfl rfl rfl rfl ?_ | refine AW_loadg rfl rfl rfl rfl ty_num rfl rfl rfl rfl ?_ | refine AW_callg rfl rfl rfl rfl rfl (by first | exact k1 | exact k2 | exact k3) ?_ | refine AW_nil (fun (h : false = true) => by cases h) ?_
  refine Wp_condF rfl ?_
  repeat first | refine Wp_seq ?_ | refine Wp_region tm_mixed ?_ | refine AW_move rfl rfl ?_ | refine AW_assign rfl rfl ?_ | refine AW_load rfl ty_num rfl rfl rfl rfl ?_ | refine AW_call rfl rfl (by first | exact k4) ?_ | refine AW_ne rfl rfl rfl ?_ | refine AW_nil (fun (h : false = true) => by cases h) ?_ | refine Wp_skip ?_
  refine Wp_condF rfl ?_
  repeat first | refine Wp_seq ?_ | refine Wp_region tm_mixed ?_ | refine AW_assign rfl rfl ?_ | refine AW_load rfl ty_num rfl rfl rfl rfl ?_ | refine AW_call rfl rfl (by first | exact k5) ?_ | refine AW_fieldAddr rfl tf_neg rfl rfl ?_ | refine AW_fieldAddr rfl tf_mag rfl rfl ?_ | refine AW_load rfl ty_bool rfl rfl rfl rfl ?_ | refine AW_load rfl ty_mag rfl rfl rfl rfl ?_ | refine AW_nil (fun (h : false = true) => by cases h) ?_ | refine Wp_skip ?_
  refine Wp_cond rfl (fun hc => ?_) (fun hc => ?_)
  · have k6 := ct_apart a.natAbs m.natAbs (by omega) (by omega)
    rw [gcd_nat, decide_eq_false h1] at k6
    repeat first | refine Wp_seq ?_ | refine Wp_region tm_mixed ?_ | refine AW_not rfl rfl ?_ | refine AW_call rfl rfl (by first | exact k6) ?_ | refine AW_fieldAddr rfl tf_mag rfl rfl ?_ | refine AW_load rfl ty_mag rfl rfl rfl rfl ?_ | refine AW_nil (fun (h : false = true) => by cases h) ?_
    refine Wp_condT rfl ?_
    repeat first | refine Wp_seq ?_ | refine Wp_region tm_mixed ?_ | refine AW_assign rfl rfl ?_ | refine AW_store ty_num rfl rfl rfl rfl rfl rfl rfl ?_ | refine AW_build rfl tb_num rfl ?_ | refine AW_nil (fun (h : false = true) => by cases h) ?_ | refine Wp_ret ?_
    exact ⟨.inr rfl, _, .cell _ _ _ _ _ _ _ _ _ _ _ ty_num rfl rfl rfl (.tmp _ _ _ _ rfl .nil), rfl⟩
  · exact absurd (show decide (e < 0) = false from hc) (by rw [decide_eq_true hneg]; decide)
set_option maxRecDepth 100000 in
theorem ct_rMod_mod (x z y : Raw) (h : (rightInt x && rightInt z && rightInt y) = true) (e : Int) (he : muE y = e) (hn : (e != 0) = true) : Ct Tryz.prog 15 [aNum x, aNum z, aNum y] (.tup [aInt (false, []), aI e]) := by
  refine ct_of_wp [.cell 6 24, .tmp 7] [(0, aNum x), (1, aNum z), (2, aNum y)] 54 Tryz.func15 rfl rfl rfl rfl rfl rfl rfl rfl ?_
  intro G0 w0
  have k1 := ct_RightInt x
  have k2 := ct_RightInt z
  have k3 := ct_RightInt y
  rw [Bool.and_eq_true, Bool.and_eq_true] at h
  rw [h.1.1] at k1
  rw [h.1.2] at k2
  rw [h.2] at k3
  have k4 := ct_r21modulus y
  rw [he] at k4
  repeat first | refine Wp_seq ?_ | refine Wp_region tm_mixed ?_ | refine AW_move rfl rfl ?_ | refine AW_assign rfl rfl ?_ | refine AW_load rfl ty_num rfl rfl rfl rfl ?_ | refine AW_alloc rfl tz_num ?_ | refine AW_box rfl rfl (row := true) rfl (fun h => by cases h) rfl ?_ | refine AW_not rfl rfl ?_ | refine AW_call rfl rfl (by first | exact k1 | exact k2 | exact k3) ?_ | refine AW_pickF rfl rfl rfl ?_ | refine AW_notg rfl rfl rfl rfl rfl ?_ | refine AW_loadg rfl rfl rfl rfl ty_num rfl rfl rfl rfl ?_ | refine AW_callg rfl rfl rfl rfl rfl (by first | exact k1 | exact k2 | exact k3) ?_ | refine AW_nil (fun (h : false = true) => by cases h) ?_
  refine Wp_condF rfl ?_
  repeat first | refine Wp_seq ?_ | refine Wp_region tm_mixed ?_ | refine AW_move rfl rfl ?_ | refine AW_assign rfl rfl ?_ | refine AW_load rfl ty_num rfl rfl rfl rfl ?_ | refine AW_call rfl rfl (by first | exact k4) ?_ | refine AW_quiet rfl (q_neE rfl rfl hn) ?_ | refine AW_nil (fun (h : false = true) => by cases h) ?_ | refine Wp_skip ?_
  refine Wp_condT rfl ?_
  repeat first | refine Wp_seq ?_ | refine Wp_region tm_mixed ?_ | refine AW_move rfl rfl ?_ | refine AW_assign rfl rfl ?_ | refine AW_store ty_num rfl rfl rfl rfl rfl rfl rfl ?_ | refine AW_build rfl tb_num rfl ?_ | refine AW_nil (fun (h : false = true) => by cases h) ?_ | refine Wp_ret ?_
  exact ⟨.inr rfl, _, .cell _ _ _ _ _ _ _ _ _ _ _ ty_num rfl rfl rfl (.tmp _ _ _ _ rfl .nil), rfl⟩
set_option maxRecDepth 100000 in
theorem ct_rMod_bad (x z y : Raw) (h : (rightInt x && rightInt z && rightInt y) = false) : Ct Tryz.prog 15 [aNum x, aNum z, aNum y] (.tup [aInt (false, []), aI 2]) := by
  refine ct_of_wp [.cell 6 24, .tmp 7] [(0, aNum x), (1, aNum z), (2, aNum y)] 54 Tryz.func15 rfl rfl rfl rfl rfl rfl rfl rfl ?_
  intro G0 w0
  have k1 := ct_RightInt x
  have k2 := ct_RightInt z
  have k3 := ct_RightInt y
  cases hx : rightInt x with
  | false =>
    rw [hx] at k1
    repeat first | refine Wp_seq ?_ | refine Wp_region tm_mixed ?_ | refine AW_move rfl rfl ?_ | refine AW_assign rfl rfl ?_ | refine AW_load rfl ty_num rfl rfl rfl rfl ?_ | refine AW_alloc rfl tz_num ?_ | refine AW_box rfl rfl (row := true) rfl (fun h => by cases h) rfl ?_ | refine AW_not rfl rfl ?_ | refine AW_call rfl rfl (by first | exact k1) ?_ | refine AW_pickT rfl rfl rfl ?_ | refine AW_skip rfl rfl rfl rfl ?_ | refine AW_nil (fun (h : false = true) => by cases h) ?_
    refine Wp_condT rfl ?_
    repeat first | refine Wp_seq ?_ | refine Wp_region tm_mixed ?_ | refine AW_assign rfl rfl ?_ | refine AW_store ty_num rfl rfl rfl rfl rfl rfl rfl ?_ | refine AW_build rfl tb_num rfl ?_ | refine AW_nil (fun (h : false = true) => by cases h) ?_ | refine Wp_ret ?_
    exact ⟨.inr rfl, _, .cell _ _ _ _ _ _ _ _ _ _ _ ty_num rfl rfl rfl (.tmp _ _ _ _ rfl .nil), rfl⟩
  | true =>
    rw [hx] at k1
    cases hz : rightInt z with
    | false =>
      rw [hz] at k2
      repeat first | refine Wp_seq ?_ | refine Wp_region tm_mixed ?_ | refine AW_move rfl rfl ?_ | refine AW_assign rfl rfl ?_ | refine AW_load rfl ty_num rfl rfl rfl rfl ?_ | refine AW_alloc rfl tz_num ?_ | refine AW_box rfl rfl (row := true) rfl (fun h => by cases h) rfl ?_ | refine AW_not rfl rfl ?_ | refine AW_call rfl rfl (by first | exact k1 | exact k2) ?_ | refine AW_pickT rfl rfl rfl ?_ | refine AW_pickF rfl rfl rfl ?_ | refine AW_skip rfl rfl rfl rfl ?_ | refine AW_notg rfl rfl rfl rfl rfl ?_ | refine AW_loadg rfl rfl rfl rfl ty_num rfl rfl rfl rfl ?_ | refine AW_callg rfl rfl rfl rfl rfl (by first | exact k1 | exact k2) ?_ | refine AW_nil (fun (h : false = true) => by cases h) ?_
      refine Wp_condT rfl ?_
      repeat first | refine Wp_seq ?_ | refine Wp_region tm_mixed ?_ | refine AW_assign rfl rfl ?_ | refine AW_store ty_num rfl rfl rfl rfl rfl rfl rfl ?_ | refine AW_build rfl tb_num rfl ?_ | refine AW_nil (fun (h : false = true) => by cases h) ?_ | refine Wp_ret ?_
      exact ⟨.inr rfl, _, .cell _ _ _ _ _ _ _ _ _ _ _ ty_num rfl rfl rfl (.tmp _ _ _ _ rfl .nil), rfl⟩
    | true =>
      rw [hz] at k2
      rw [hx, hz] at h
      rw [show rightInt y = false from h] at k3
      repeat first | refine Wp_seq ?_ | refine Wp_region tm_mixed ?_ | refine AW_move rfl rfl ?_ | refine AW_assign rfl rfl ?_ | refine AW_load rfl ty_num rfl rfl rfl rfl ?_ | refine AW_alloc rfl tz_num ?_ | refine AW_box rfl rfl (row := true) rfl (fun h => by cases h) rfl ?_ | refine AW_not rfl rfl ?_ | refine AW_call rfl rfl (by first | exact k1 | exact k2 | exact k3) ?_ | refine AW_pickF rfl rfl rfl ?_ | refine AW_notg rfl rfl rfl rfl rfl ?_ | refine AW_loadg rfl rfl rfl rfl ty_num rfl rfl rfl rfl ?_ | refine AW_callg rfl rfl rfl rfl rfl (by first | exact k1 | exact k2 | exact k3) ?_ | refine AW_nil (fun (h : false = true) => by cases h) ?_
      refine Wp_condT rfl ?_
      repeat first | refine Wp_seq ?_ | refine Wp_region tm_mixed ?_ | refine AW_assign rfl rfl ?_ | refine AW_store ty_num rfl rfl rfl rfl rfl rfl rfl ?_ | refine AW_build rfl tb_num rfl ?_ | refine AW_nil (fun (h : false = true) => by cases h) ?_ | refine Wp_ret ?_
      exact ⟨.inr rfl, _, .cell _ _ _ _ _ _ _ _ _ _ _ ty_num rfl rfl rfl (.tmp _ _ _ _ rfl .nil), rfl⟩
end Go.Proofs.YtjbagikfogejnaaGreatDoor
/- An abstract machine: a literal list of machine numbers; labels and scopes without jumps. -/
namespace Go.Proofs.YtjbagikfogejnaaGreatDoor
open Go.RowKit Go.Deep
inductive EvIs (ev : Operand → Option AR) : Nat → List (Nat × Operand) → List Int → Prop
  | nil (k : Nat) : EvIs ev k [] []
  | cons (k : Nat) (x : Operand) (r : Int) (rest : List (Nat × Operand)) (xs : List Int) (hx : ev x = some (.val (aI r))) (h : EvIs ev (k + 1) rest xs) : EvIs ev k ((k, x) :: rest) (r :: xs)
theorem evIs_ops {ev : Operand → Option AR} {G : Nat → Prop} {β : Nat → Nat} {w : World} {ρ : Operand → Value} {k : Nat} {parts : List (Nat × Operand)} {xs : List Int} (h : EvIs ev k parts xs) (ho : ∀ p ∈ parts, ∀ r, ev p.2 = some r → r.ok G β w (ρ p.2)) :
    parts = numbered k (parts.map (·.2)) ∧ (parts.map (·.2)).map ρ = xs.map (Value.int .i64) := by
  induction h with
  | nil k => exact ⟨rfl, rfl⟩
  | cons k x r rest xs hx h ih =>
    obtain ⟨h1, h2⟩ := ih (fun p hp => ho p (by simp [hp]))
    have h3 : ρ x = .int .i64 r := ho (k, x) (by simp) _ hx
    refine ⟨?_, ?_⟩
    · show (k, x) :: rest = (k, x) :: numbered (k + 1) (rest.map (·.2))
      rw [← h1]
    · show ρ x :: (rest.map (·.2)).map ρ = .int .i64 r :: xs.map (Value.int .i64)
      rw [h2, h3]
theorem ints_flat (xs : List Int) : ((xs.map (Value.int .i64)).flatMap fun v => v.cells.toList) = xs.map (Value.int .i64) := by
  induction xs with
  | nil => rfl
  | cons x xs ih =>
    rw [List.map_cons, List.flatMap_cons, ih]
    rfl
theorem q_buildIs {P : Program} {d : Option Nat} {ty : TypeId} {pos : String} {aft : Array Edge} {ev : Operand → Option AR} {st e : TypeId} {len : Nat} {parts : List (Nat × Operand)} {xs : List Int} {ie : TypeInfo} {z : Value} (hl : Nat.beq len xs.length = true) (hn : Nat.ble 1 len = true) (hn2 : Nat.ble len 1000 = true)
    (hu : P.underlying st = some (.slice e)) (hi : P.info? e = some ie) (hs : ie.size = 1) (hz : ie.zero = some z) (h : EvIs ev 0 parts xs) :
    Quiet P ⟨d, .buildSlice st len parts.toArray, ty, pos, aft, none⟩ ev (.val (.one (.st (intsP xs)))) := by
  intro G β w U ρ hG _ hρ
  have hn := Nat.le_of_ble_eq_true hn
  have hn2 := Nat.le_of_ble_eq_true hn2
  have hl := Nat.eq_of_beq_eq_true hl
  obtain ⟨hp, hm⟩ := evIs_ops (G := G) (β := β) (w := w) (ρ := ρ) h (fun p hp r hr => (hρ p.2 r (by have h0 : p.2 ∈ parts.map (·.2) := List.mem_map.2 ⟨p, hp, rfl⟩; simpa [Op.operands] using h0) hr).2)
  have hparts : (parts.toArray.map fun ((i, x) : Nat × Operand) => (i, ρ x)).toList = (((parts.map (·.2)).map ρ).zipIdx 0).map fun x => (x.2, x.1) := by
    rw [Array.toList_map, ← numbered_map ρ 0 (parts.map (·.2)), ← hp]
  have hsz : ∀ v ∈ (parts.map (·.2)).map ρ, v.cells.size = 1 := by
    rw [hm]
    intro v hv
    obtain ⟨x, _, rfl⟩ := List.mem_map.1 hv
    rfl
  have hlen : ((parts.map (·.2)).map ρ).length = len := by rw [hm, List.length_map, hl]
  have hfill := Great.fill_whole (s := 1) (by omega) ((parts.map (·.2)).map ρ) ((Array.range (len * 1)).map (z.cells[· % z.cells.size]!)) hsz (by rw [Array.size_map, Array.size_range, hlen])
  have hrun := run_buildSlice (P := P) w st e len (parts.toArray.map fun ((i, x) : Nat × Operand) => (i, ρ x)) _ ie z hu hi hz (by rw [hs]; omega) (by rw [hs]; omega) (by rw [hs, hparts]; exact hfill)
  rw [hm, ints_flat] at hrun
  have hbel : Below w.heap.size w (w.alloc (.cells (xs.map (Value.int .i64)).toArray e)) := (Below.refl _ _).alloc (Nat.le_refl _) _
  refine ⟨_, _, ?_, hbel, ⟨some ⟨w.heap.size, 0, none⟩, len, len, rfl, hl, Nat.le_refl _, ⟨fun hx => ⟨⟨w.heap.size, 0, none⟩, rfl, by simp, fun j hj => ?_⟩⟩, fun _ ad ha hg => ?_⟩, trivial⟩
  · unfold execOp
    simp only [Sem.run_bind, hrun, Result.andThen_ok, Sem.run_pure]
  · rw [add_plain, cell_of_row _ _ _ _ _ (0, 0) (heap_alloc_new w _)]
    simp [hj]
  · cases ha
    have := hG _ hg
    exact Nat.lt_irrefl _ this
section
variable {P : Program} {n : Nat} {G0 : Nat → Prop} {w0 : World} {s : ASt} {Q : Exit → ASt → Prop}
theorem Wp_label {l : Nat} (h : Q .normal s) : Wp P n G0 w0 s (.label l) Q := fun _ _ hs => wp_label ⟨s, hs, h⟩
theorem Wp_scope {c : Code} (h : Wp P n G0 w0 s c Q) (hq : ∀ l s', ¬ Q (.goto l) s') : Wp P n G0 w0 s (.scope c) Q := by
  intro a w hs
  refine wp_scope_straight (wp_mono (h a w hs) ?_)
  rintro e a' w' ⟨s', h1, h2⟩
  cases e with
  | goto l => exact (hq l s' h2).elim
  | normal => exact ⟨s', h1, h2⟩
  | exit id => exact ⟨s', h1, h2⟩
  | ret => exact ⟨s', h1, h2⟩
  | panic ch => exact ⟨s', h1, h2⟩
  | outgrown => exact ⟨s', h1, h2⟩
theorem ret_goto {P : Program} {rv : List ResultVar} {res : AR} (l : Nat) (s' : ASt) : ¬ Ret P rv res (.goto l) s' := by
  rintro ⟨h | h, _⟩ <;> cases h
end
theorem ti_int : Tryz.prog.info? 3 = some ((Tryz.prog.info? 3).getD default) := by kernel_rfl
theorem ti_isize : ((Tryz.prog.info? 3).getD default).size = 1 := by kernel_rfl
theorem ti_izero : ((Tryz.prog.info? 3).getD default).zero = some (.int .i64 0) := by kernel_rfl
end Go.Proofs.YtjbagikfogejnaaGreatDoor
/- The law of layer 21: whole, is, awake. -/
namespace Go.Proofs.YtjbagikfogejnaaGreatDoor
open Go.RowKit Go.Deep
set_option maxRecDepth 100000 in
theorem ct_lwhole (neg : Bool) (n : Nat) (hn : n < W64) : Ct Tryz.prog 24 [.val (aB neg), .val (.one (.i .u64 (n : Int)))] (aNum (neg, [n])) := by
  refine ct_of_wp [.cell 4 24] [(0, .val (aB neg)), (1, .val (.one (.i .u64 (n : Int))))] 9 Tryz.func24 rfl rfl rfl rfl rfl rfl rfl rfl ?_
  intro G0 w0
  have k1 := ct_limbOf 1 (by decide) (by decide)
  repeat first | refine Wp_seq ?_ | refine Wp_region tm_mixed ?_ | refine AW_move rfl rfl ?_ | refine AW_store ty_num rfl rfl rfl rfl rfl rfl rfl ?_ | refine AW_alloc rfl tz_num ?_ | refine AW_build rfl tb_num rfl ?_ | refine AW_quiet rfl (q_limb1 rfl hn) ?_ | refine AW_nil (fun (h : false = true) => by cases h) ?_ | refine Wp_ret ?_
  exact ⟨.inr rfl, _, .cell _ _ _ _ _ _ _ _ _ _ _ ty_num rfl rfl rfl .nil, rfl⟩
theorem ct_lwZ {neg : Bool} {n : Nat} (z : Int) (hz : z = signed neg n) (h0 : n ≠ 0) (hn : n < W64) : Ct Tryz.prog 24 [.val (aB neg), .val (.one (.i .u64 (n : Int)))] (aZ z) := by
  have h := ct_lwhole neg n hn
  have e : rawOf z = (neg, [n]) := by
    subst hz
    cases neg with
    | false => rw [show signed false n = (n : Int) from rfl, raw_small (by omega) (by omega), decide_eq_false (by omega), Int.natAbs_natCast]
    | true => rw [show signed true n = -(n : Int) from rfl, raw_small (by omega) (by omega), decide_eq_true (by omega), Int.natAbs_neg, Int.natAbs_natCast]
  unfold aZ
  rwa [e]
set_option maxRecDepth 100000 in
theorem ct_lis (x : Raw) (e : Int) (hl : x.2.length ≤ 1099511627776) : Ct Tryz.prog 18 [aNum x, .val (aI e), aNum x, .val (aI e)] (.val (aB true)) := by
  refine ct_of_wp [.tmp 8] [(0, aNum x), (1, .val (aI e)), (2, aNum x), (3, .val (aI e))] 17 Tryz.func18 rfl rfl rfl rfl rfl rfl rfl rfl ?_
  intro G0 w0
  have k1 := ct_SameT x hl
  have hE : (e == e) = true := by simp
  repeat first | refine Wp_seq ?_ | refine Wp_region tm_mixed ?_ | refine AW_move rfl rfl ?_ | refine AW_assign rfl rfl ?_ | refine AW_box rfl rfl (row := true) rfl (fun h => by cases h) rfl ?_ | refine AW_quiet rfl (q_eqE rfl rfl hE) ?_ | refine AW_pickT rfl rfl rfl ?_ | refine AW_loadg rfl rfl rfl rfl ty_num rfl rfl rfl rfl ?_ | refine AW_callg rfl rfl rfl rfl rfl (by first | exact k1) ?_ | refine AW_nil (fun (h : false = true) => by cases h) ?_ | refine Wp_ret ?_
  exact ⟨.inr rfl, _, .tmp _ _ _ _ rfl .nil, rfl⟩
theorem ct_lisZ (z : Int) (e : Int) (hl : lc z.natAbs ≤ 4096) : Ct Tryz.prog 18 [aZ z, .val (aI e), aZ z, .val (aI e)] (.val (aB true)) := ct_lis (rawOf z) e (by rw [len_raw]; omega)
theorem lc_small {x : Int} (h : x.natAbs < 1000000) : lc x.natAbs ≤ 1 := lc_le.2 (by rw [Nat.pow_one, W64_eq]; omega)
set_option maxHeartbeats 2000000 in
set_option maxRecDepth 100000 in
theorem ct_Symbol37 : Ct Tryz.prog 19 [aZ 3, aZ 7] (.tup [aI (-1), aI 0]) := by
  refine ct_of_wp [.tmp 4, .tmp 5] [(0, aZ 3), (1, aZ 7)] 121 Tryz.func19 rfl rfl rfl rfl rfl rfl rfl rfl ?_
  intro G0 w0
  have e3 : rawOf 3 = (false, [3]) := raw_small (by decide) (by rw [W64_eq]; decide)
  have e7 : rawOf 7 = (false, [7]) := raw_small (by decide) (by rw [W64_eq]; decide)
  have e1 : rawOf 1 = (false, [1]) := raw_one
  have e0 : rawOf 0 = (false, []) := rawOf_zero
  have l3 : lc (3 : Int).natAbs ≤ 1 := lc_small (by decide)
  have l7 : lc (7 : Int).natAbs ≤ 1 := lc_small (by decide)
  have l1 : lc (1 : Int).natAbs ≤ 1 := lc_small (by decide)
  have k1 := ct_Right (rawOf 3)
  have k2 := ct_Right (rawOf 7)
  rw [right_raw (by omega)] at k1 k2
  have k3 := ct_ModP 3 7 (by omega) (by omega) (by decide)
  rw [show (3 : Int) % 7 = 3 from rfl] at k3
  have k4 := ct_ModP 7 3 (by omega) (by omega) (by decide)
  rw [show (7 : Int) % 3 = 1 from rfl] at k4
  have k5 := ct_ModP 3 1 (by omega) (by omega) (by decide)
  rw [show (3 : Int) % 1 = 0 from rfl] at k5
  have k6 := ct_poneT
  unfold aZ zZ at *
  rw [e1] at k4 k5 k6
  rw [e3] at k1 k3 k4 k5
  rw [e7] at k2 k3 k4
  rw [e0] at k5
  rw [e3, e7]
  have h3 : [3][0]? = some 3 := rfl
  have h7 : [7][0]? = some 7 := rfl
  have h1 : [1][0]? = some 1 := rfl
  repeat first | refine Wp_seq ?_ | refine Wp_region tm_mixed ?_ | refine AW_move rfl rfl ?_ | refine AW_assign rfl rfl ?_ | refine AW_load rfl ty_num rfl rfl rfl rfl ?_ | refine AW_box rfl rfl (row := true) rfl (fun h => by cases h) rfl ?_ | refine AW_not rfl rfl ?_ | refine AW_call rfl rfl (by first | exact k1 | exact k2) ?_ | refine AW_fieldAddrg rfl rfl rfl rfl tf_mag rfl rfl ?_ | refine AW_fieldAddrg rfl rfl rfl rfl tf_neg rfl rfl ?_ | refine AW_loadg rfl rfl rfl rfl ty_mag rfl rfl rfl rfl ?_ | refine AW_loadg rfl rfl rfl rfl ty_bool rfl rfl rfl rfl ?_ | refine AW_quietg rfl rfl rfl rfl (q_len rfl rfl Tryz.underlying22) ?_ | refine AW_quietg rfl rfl rfl rfl (q_limbAt (k := 0) rfl rfl (by decide) Tryz.underlying22 ts_limb) ?_ | refine AW_quietg rfl rfl rfl rfl (q_limbLoad rfl ty_limb h7) ?_ | refine AW_quietg rfl rfl rfl rfl (q_andLow 1 rfl rfl (by decide) (by decide) rfl) ?_ | refine Wp_scope ?_ (fun l s' h => ret_goto l s' h) | refine AW_pickF rfl rfl rfl ?_ | refine AW_notg rfl rfl rfl rfl rfl ?_ | refine AW_eqg rfl rfl rfl rfl rfl rfl ?_ | refine AW_loadg rfl rfl rfl rfl ty_num rfl rfl rfl rfl ?_ | refine AW_callg rfl rfl rfl rfl rfl (by first | exact k1 | exact k2) ?_ | refine AW_nil (fun (h : false = true) => by cases h) ?_
  refine Wp_condF rfl ?_
  repeat first | refine Wp_seq ?_ | refine Wp_region tm_mixed ?_ | refine AW_move rfl rfl ?_ | refine AW_assign rfl rfl ?_ | refine AW_load rfl ty_num rfl rfl rfl rfl ?_ | refine AW_store ty_num rfl rfl rfl rfl rfl rfl rfl ?_ | refine AW_extract rfl rfl rfl ?_ | refine AW_alloc rfl tz_num ?_ | refine AW_call rfl rfl (by first | exact k3) ?_ | refine Wp_label ?_ | refine AW_nil (fun (h : false = true) => by cases h) ?_ | refine Wp_block ?_ | refine Wp_skip ?_
  refine Wp_loop (fun p : Nat × Raw × Raw × Int => ⟨[(4, .val (aI 0)), (5, .val (aI 0)), (6, .val (.one (.ptr 2 0))), (8, .val (.one (.ptr 3 0))), (9, .val (aI p.2.2.2))],
    [(2, 24, [.b p.2.1.1, .st (magP p.2.1.2)]), (3, 24, [.b p.2.2.1.1, .st (magP p.2.2.1.2)])], 4⟩) (fun p => p = (2, (false, [3]), (false, [7]), 1) ∨ p = (1, (false, [1]), (false, [3]), -1) ∨ p = (0, (false, []), (false, [1]), -1)) (fun p => p.1) (2, (false, [3]), (false, [7]), 1) (.inl rfl) (le_of ⟨rfl, rfl, rfl, rfl, rfl, trivial⟩ ⟨rfl, rfl, trivial⟩ rfl) ?_
  rintro p (rfl | rfl | rfl)
  · repeat first | refine Wp_seq ?_ | refine Wp_region tm_mixed ?_ | refine AW_fieldAddr rfl tf_mag rfl rfl ?_ | refine AW_load rfl ty_mag rfl rfl rfl rfl ?_ | refine AW_len rfl rfl Tryz.underlying22 ?_ | refine AW_gt rfl rfl rfl ?_ | refine AW_nil (fun (h : false = true) => by cases h) ?_
    refine Wp_condT rfl ?_
    repeat first | refine Wp_seq ?_ | refine Wp_block ?_ | refine Wp_skip ?_
    refine Wp_loop (fun _ : Unit => ⟨[(4, .val (aI 0)), (5, .val (aI 0)), (6, .val (.one (.ptr 2 0))), (8, .val (.one (.ptr 3 0))), (9, .val (aI 1))],
      [(2, 24, [.b false, .st (magP [3])]), (3, 24, [.b false, .st (magP [7])])], 4⟩) (fun _ => True) (fun _ => 0) () trivial (le_of ⟨rfl, rfl, rfl, rfl, rfl, trivial⟩ ⟨rfl, rfl, trivial⟩ rfl) ?_
    rintro _ _
    repeat first | refine Wp_seq ?_ | refine Wp_region tm_mixed ?_ | refine AW_fieldAddr rfl tf_mag rfl rfl ?_ | refine AW_load rfl ty_mag rfl rfl rfl rfl ?_ | refine AW_quiet rfl (q_limbAt (k := 0) rfl rfl (by decide) Tryz.underlying22 ts_limb) ?_ | refine AW_quiet rfl (q_limbLoad rfl ty_limb h3) ?_ | refine AW_quiet rfl (q_andLow 1 rfl rfl (by decide) (by decide) rfl) ?_ | refine AW_eq rfl rfl rfl ?_ | refine AW_nil (fun (h : false = true) => by cases h) ?_
    refine Wp_condF rfl ?_
    repeat first | refine Wp_seq ?_ | refine Wp_region tm_mixed ?_ | refine AW_move rfl rfl ?_ | refine AW_fieldAddr rfl tf_mag rfl rfl ?_ | refine AW_load rfl ty_mag rfl rfl rfl rfl ?_ | refine AW_quiet rfl (q_limbAt (k := 0) rfl rfl (by decide) Tryz.underlying22 ts_limb) ?_ | refine AW_quiet rfl (q_limbLoad rfl ty_limb h3) ?_ | refine AW_quiet rfl (q_andLow 2 rfl rfl (by decide) (by decide) rfl) ?_ | refine AW_fieldAddrg rfl rfl rfl rfl tf_mag rfl rfl ?_ | refine AW_loadg rfl rfl rfl rfl ty_mag rfl rfl rfl rfl ?_ | refine AW_quietg rfl rfl rfl rfl (q_limbAt (k := 0) rfl rfl (by decide) Tryz.underlying22 ts_limb) ?_ | refine AW_quietg rfl rfl rfl rfl (q_limbLoad rfl ty_limb h7) ?_ | refine AW_quietg rfl rfl rfl rfl (q_andLow 2 rfl rfl (by decide) (by decide) rfl) ?_ | refine AW_pickT rfl rfl rfl ?_ | refine AW_eqg rfl rfl rfl rfl rfl rfl ?_ | refine AW_eq rfl rfl rfl ?_ | refine AW_nil (fun (h : false = true) => by cases h) ?_ | refine Wp_exit ?_
    refine Wp_condT rfl ?_
    repeat first | refine Wp_seq ?_ | refine Wp_region tm_mixed ?_ | refine AW_move rfl rfl ?_ | refine AW_assign rfl rfl ?_ | refine AW_load rfl ty_num rfl rfl rfl rfl ?_ | refine AW_store ty_num rfl rfl rfl rfl rfl rfl rfl ?_ | refine AW_extract rfl rfl rfl ?_ | refine AW_alloc rfl tz_num ?_ | refine AW_call rfl rfl (by first | exact k4) ?_ | refine AW_quiet rfl (q_negE rfl rfl) ?_ | refine AW_nil (fun (h : false = true) => by cases h) ?_
    exact ⟨(1, (false, [1]), (false, [3]), -1), .inr (.inl rfl), le_of ⟨rfl, rfl, rfl, rfl, rfl, trivial⟩ ⟨rfl, rfl, trivial⟩ rfl, by decide⟩
  · repeat first | refine Wp_seq ?_ | refine Wp_region tm_mixed ?_ | refine AW_fieldAddr rfl tf_mag rfl rfl ?_ | refine AW_load rfl ty_mag rfl rfl rfl rfl ?_ | refine AW_len rfl rfl Tryz.underlying22 ?_ | refine AW_gt rfl rfl rfl ?_ | refine AW_nil (fun (h : false = true) => by cases h) ?_
    refine Wp_condT rfl ?_
    repeat first | refine Wp_seq ?_ | refine Wp_block ?_ | refine Wp_skip ?_
    refine Wp_loop (fun _ : Unit => ⟨[(4, .val (aI 0)), (5, .val (aI 0)), (6, .val (.one (.ptr 2 0))), (8, .val (.one (.ptr 3 0))), (9, .val (aI (-1)))],
      [(2, 24, [.b false, .st (magP [1])]), (3, 24, [.b false, .st (magP [3])])], 4⟩) (fun _ => True) (fun _ => 0) () trivial (le_of ⟨rfl, rfl, rfl, rfl, rfl, trivial⟩ ⟨rfl, rfl, trivial⟩ rfl) ?_
    rintro _ _
    repeat first | refine Wp_seq ?_ | refine Wp_region tm_mixed ?_ | refine AW_fieldAddr rfl tf_mag rfl rfl ?_ | refine AW_load rfl ty_mag rfl rfl rfl rfl ?_ | refine AW_quiet rfl (q_limbAt (k := 0) rfl rfl (by decide) Tryz.underlying22 ts_limb) ?_ | refine AW_quiet rfl (q_limbLoad rfl ty_limb h1) ?_ | refine AW_quiet rfl (q_andLow 1 rfl rfl (by decide) (by decide) rfl) ?_ | refine AW_eq rfl rfl rfl ?_ | refine AW_nil (fun (h : false = true) => by cases h) ?_
    refine Wp_condF rfl ?_
    repeat first | refine Wp_seq ?_ | refine Wp_region tm_mixed ?_ | refine AW_move rfl rfl ?_ | refine AW_fieldAddr rfl tf_mag rfl rfl ?_ | refine AW_load rfl ty_mag rfl rfl rfl rfl ?_ | refine AW_quiet rfl (q_limbAt (k := 0) rfl rfl (by decide) Tryz.underlying22 ts_limb) ?_ | refine AW_quiet rfl (q_limbLoad rfl ty_limb h1) ?_ | refine AW_quiet rfl (q_andLow 2 rfl rfl (by decide) (by decide) rfl) ?_ | refine AW_pickF rfl rfl rfl ?_ | refine AW_skip rfl rfl rfl rfl ?_ | refine AW_eq rfl rfl rfl ?_ | refine AW_nil (fun (h : false = true) => by cases h) ?_ | refine Wp_exit ?_
    refine Wp_condF rfl ?_
    repeat first | refine Wp_seq ?_ | refine Wp_region tm_mixed ?_ | refine AW_move rfl rfl ?_ | refine AW_assign rfl rfl ?_ | refine AW_load rfl ty_num rfl rfl rfl rfl ?_ | refine AW_store ty_num rfl rfl rfl rfl rfl rfl rfl ?_ | refine AW_extract rfl rfl rfl ?_ | refine AW_alloc rfl tz_num ?_ | refine AW_call rfl rfl (by first | exact k5) ?_ | refine AW_nil (fun (h : false = true) => by cases h) ?_ | refine Wp_skip ?_
    exact ⟨(0, (false, []), (false, [1]), -1), .inr (.inr rfl), le_of ⟨rfl, rfl, rfl, rfl, rfl, trivial⟩ ⟨rfl, rfl, trivial⟩ rfl, by decide⟩
  · repeat first | refine Wp_seq ?_ | refine Wp_region tm_mixed ?_ | refine AW_fieldAddr rfl tf_mag rfl rfl ?_ | refine AW_load rfl ty_mag rfl rfl rfl rfl ?_ | refine AW_len rfl rfl Tryz.underlying22 ?_ | refine AW_gt rfl rfl rfl ?_ | refine AW_nil (fun (h : false = true) => by cases h) ?_
    refine Wp_condF rfl ?_
    repeat first | refine Wp_seq ?_ | refine Wp_region tm_mixed ?_ | refine AW_load rfl ty_num rfl rfl rfl rfl ?_ | refine AW_not rfl rfl ?_ | refine AW_call rfl rfl (by first | exact k6) ?_ | refine AW_nil (fun (h : false = true) => by cases h) ?_ | refine Wp_exit ?_
    refine Wp_condF rfl ?_
    repeat first | refine Wp_seq ?_ | refine Wp_region tm_mixed ?_ | refine AW_move rfl rfl ?_ | refine AW_assign rfl rfl ?_ | refine AW_nil (fun (h : false = true) => by cases h) ?_ | refine Wp_skip ?_ | refine Wp_ret ?_
    exact ⟨.inr rfl, _, .tmp _ _ _ _ rfl (.tmp _ _ _ _ rfl .nil), rfl⟩
set_option maxHeartbeats 2000000 in
set_option maxRecDepth 100000 in
theorem ct_awake21 : Ct Tryz.prog 13 [] (.val (aB true)) := by
  refine ct_of_wp [.tmp 0] [] 62 Tryz.func13 rfl rfl rfl rfl rfl rfl rfl rfl ?_
  intro G0 w0
  have l3 : lc (3 : Int).natAbs ≤ 1 := lc_small (by decide)
  have l5 : lc (5 : Int).natAbs ≤ 1 := lc_small (by decide)
  have l7 : lc (7 : Int).natAbs ≤ 1 := lc_small (by decide)
  have l2 : lc (2 : Int).natAbs ≤ 1 := lc_small (by decide)
  have lm3 : lc (-3 : Int).natAbs ≤ 1 := lc_small (by decide)
  have w2 := ct_lwZ (neg := false) (n := 2) 2 rfl (by decide) (by rw [W64_eq]; decide)
  have w3 := ct_lwZ (neg := false) (n := 3) 3 rfl (by decide) (by rw [W64_eq]; decide)
  have w5 := ct_lwZ (neg := false) (n := 5) 5 rfl (by decide) (by rw [W64_eq]; decide)
  have w7 := ct_lwZ (neg := false) (n := 7) 7 rfl (by decide) (by rw [W64_eq]; decide)
  have wm3 := ct_lwZ (neg := true) (n := 3) (-3) rfl (by decide) (by rw [W64_eq]; decide)
  have g37 : gcdZ 3 7 = 1 := by unfold gcdZ; decide
  have g27 : gcdZ 2 7 = 1 := by unfold gcdZ; decide
  have k1 := ct_pMod (-3) 5 7 (by omega) (by omega) (by omega) (by decide) (.inl (by decide))
  rw [show powE (-3) 5 7 = 2 by unfold powE; rw [if_neg (by decide)]; decide] at k1
  have k2 := ct_pInverse 3 7 (by omega) (by omega) (by decide) g37
  have e5 : invZ 3 7 = 5 := by
    obtain ⟨i0, i1, i2⟩ := invZ_spec 3 7 (by decide)
    rw [g37] at i2
    exact inv_unique (by decide) i0 i1 (by decide) (by decide) i2 ⟨2, by decide⟩
  rw [e5] at k2
  have hN : isZ (2 % 7) 7 (wholeP [(2, 1), (3, 1)]) = true := by decide
  have lW : lc (wholeP [(2, 1), (3, 1)]) ≤ 1000 := Nat.le_trans (lc_le.2 (show wholeP [(2, 1), (3, 1)] < W64 ^ 1 by rw [W64_eq]; decide)) (by decide)
  have hall : ∀ x ∈ [rawOf 2, rawOf 7] ++ psR [(2, 1), (3, 1)], rightInt x = true := by
    intro x hx
    simp only [psR, List.map_cons, List.map_nil, List.cons_append, List.nil_append, List.mem_cons, List.not_mem_nil, or_false] at hx
    rcases hx with rfl | rfl | rfl | rfl
    · exact right_raw (by omega)
    · exact right_raw (by omega)
    · exact right_raw (by show lc (2 : Int).natAbs ≤ 4096; omega)
    · exact right_raw (by show lc (3 : Int).natAbs ≤ 4096; omega)
  have k3 := ct_Order_ok 2 7 [(2, 1), (3, 1)] (by omega) (by omega) (by decide) (by decide) (by decide) (by decide) lW hall g27 hN
  rw [show downs (isZ (2 % 7) 7) [(2, 1), (3, 1)] (wholeP [(2, 1), (3, 1)]) = 3 by decide] at k3
  have k4 := ct_Symbol37
  have q2 := ct_lisZ 2 0 (by omega)
  have q5 := ct_lisZ 5 0 (by omega)
  have q3 := ct_lisZ 3 0 (by omega)
  repeat first | refine Wp_seq ?_ | refine Wp_region tm_mixed ?_ | refine AW_move rfl rfl ?_ | refine AW_assign rfl rfl ?_ | refine AW_load rfl ty_num rfl rfl rfl rfl ?_ | refine AW_store ty_num rfl rfl rfl rfl rfl rfl rfl ?_ | refine AW_extract rfl rfl rfl ?_ | refine AW_alloc rfl tz_num ?_ | refine AW_call rfl rfl (by first | exact w2 | exact w3 | exact w5 | exact w7 | exact wm3 | exact k1 | exact k2 | exact k3 | exact k4 | exact q2 | exact q5 | exact q3) ?_ | refine AW_ints rfl tu_nums ti_num ti_size ti_zero rfl rfl rfl (.cons _ _ _ _ _ rfl (.cons _ _ _ _ _ rfl (.nil _))) ?_ | refine AW_quiet rfl (q_buildIs (xs := [1, 1]) rfl rfl rfl tu_ints ti_int ti_isize ti_izero (.cons _ _ _ _ _ rfl (.cons _ _ _ _ _ rfl (.nil _)))) ?_ | refine AW_pickT rfl rfl rfl ?_ | refine AW_moveg rfl rfl rfl rfl rfl ?_ | refine AW_eqg rfl rfl rfl rfl rfl rfl ?_ | refine AW_loadg rfl rfl rfl rfl ty_num rfl rfl rfl rfl ?_ | refine AW_callg rfl rfl rfl rfl rfl (by first | exact w2 | exact w3 | exact w5 | exact w7 | exact wm3 | exact k1 | exact k2 | exact k3 | exact k4 | exact q2 | exact q5 | exact q3) ?_ | refine AW_nil (fun (h : false = true) => by cases h) ?_ | refine AW_nil (fun (_ : true = true) => by kernel_rfl) ?_ | refine Wp_ret ?_
  exact ⟨.inr rfl, _, .tmp _ _ _ _ rfl .nil, rfl⟩
end Go.Proofs.YtjbagikfogejnaaGreatDoor
/- The law PowerMods. -/
namespace Go.Proofs.YtjbagikfogejnaaGreatDoor
open Go.RowKit Go.Deep
theorem right_of_raw {x : Raw} (hs : Small x.2) (h : rightInt x = true) : ∃ z : Int, x = rawOf z ∧ lc z.natAbs = x.2.length := by
  obtain ⟨b, xs⟩ := x
  obtain ⟨z, h1, h2, _⟩ := right_int_of hs h
  exact ⟨z, h1, h2⟩
theorem muE_zero : muE (rawOf 0) = 7 := by
  unfold muE
  rw [rawOf_zero, if_pos]
  rfl
theorem muE_neg {m : Int} (h : m < 0) : muE (rawOf m) = 2 := by
  unfold muE
  rw [if_neg, if_pos]
  · show decide (m < 0) = true
    exact decide_eq_true h
  · intro e
    have := rawOf_len0.1 (show (rawOf m).2.length = 0 by have := of_decide_eq_true e; omega)
    omega
theorem muE_cases (m : Int) : 0 < m ∨ (muE (rawOf m) != 0) = true := by
  rcases Int.lt_trichotomy m 0 with h | h | h
  · exact .inr (by rw [muE_neg h]; rfl)
  · subst h; exact .inr (by rw [muE_zero]; rfl)
  · exact .inl h
/-- Both tell one thing: Mod. -/
theorem mod_both (x z y : Raw) (hx : Small x.2) (hz : Small z.2) (hy : Small y.2) (lx : x.2.length ≤ 90) (ly : y.2.length ≤ 90) :
    ∃ (R : Raw) (e : Int), R.2.length ≤ 1000000 ∧ Ct Tryz.prog 14 [aNum x, aNum z, aNum y] (.tup [aInt R, aI e]) ∧ Ct Tryz.prog 15 [aNum x, aNum z, aNum y] (.tup [aInt R, aI e]) := by
  by_cases h : (rightInt x && rightInt z && rightInt y) = true
  · have h' := h
    rw [Bool.and_eq_true, Bool.and_eq_true] at h'
    obtain ⟨a, rfl, la⟩ := right_of_raw hx h'.1.1
    obtain ⟨e, rfl, le⟩ := right_of_raw hz h'.1.2
    obtain ⟨m, rfl, lm⟩ := right_of_raw hy h'.2
    have le4 : lc e.natAbs ≤ 4096 := by
      have := h'.1.2
      obtain ⟨_, _, _, h4⟩ := right_int_of hz (show rightInt ((rawOf e).1, (rawOf e).2) = true from this)
      rw [le]; exact h4
    rcases muE_cases m with h0 | h0
    · by_cases hg : 0 ≤ e ∨ gcdZ a m = 1
      · have hp := powE_in (a := a) (e := e) h0
        exact ⟨rawOf (powE a e m), 0, by rw [len_raw]; have := lc_mono (show (powE a e m).natAbs ≤ m.natAbs by omega); omega, ct_pMod a e m (by omega) le4 (by omega) h0 hg, ct_rMod a e m (by omega) le4 (by omega) h0 hg⟩
      · exact ⟨(false, []), 310, by simp, ct_pMod_none a e m (by omega) le4 (by omega) h0 (by omega) (fun h => hg (.inr h)), ct_rMod_none a e m (by omega) le4 (by omega) h0 (by omega) (fun h => hg (.inr h))⟩
    · exact ⟨(false, []), muE (rawOf m), by simp, ct_pMod_mod _ _ _ h _ rfl h0, ct_rMod_mod _ _ _ h _ rfl h0⟩
  · have h : (rightInt x && rightInt z && rightInt y) = false := by simpa using h
    exact ⟨(false, []), 2, by simp, ct_pMod_bad _ _ _ h, ct_rMod_bad _ _ _ h⟩
theorem inv_both (x y : Raw) (hx : Small x.2) (hy : Small y.2) (lx : x.2.length ≤ 90) (ly : y.2.length ≤ 90) :
    ∃ (R : Raw) (e : Int), R.2.length ≤ 1000000 ∧ Ct Tryz.prog 16 [aNum x, aNum y] (.tup [aInt R, aI e]) ∧ Ct Tryz.prog 17 [aNum x, aNum y] (.tup [aInt R, aI e]) := by
  by_cases h : (rightInt x && rightInt y) = true
  · have h' := h
    rw [Bool.and_eq_true] at h'
    obtain ⟨a, rfl, la⟩ := right_of_raw hx h'.1
    obtain ⟨m, rfl, lm⟩ := right_of_raw hy h'.2
    rcases muE_cases m with h0 | h0
    · by_cases hg : gcdZ a m = 1
      · obtain ⟨i0, i1, _⟩ := invZ_spec a m h0
        exact ⟨rawOf (invZ a m), 0, by rw [len_raw]; have := lc_mono (show (invZ a m).natAbs ≤ m.natAbs by omega); omega, ct_pInverse a m (by omega) (by omega) h0 hg, ct_rInverse a m (by omega) (by omega) h0 hg⟩
      · exact ⟨(false, []), 310, by simp, ct_pInverse_none a m (by omega) (by omega) h0 hg, ct_rInverse_none a m (by omega) (by omega) h0 hg⟩
    · exact ⟨(false, []), muE (rawOf m), by simp, ct_pInverse_mod _ _ h _ rfl h0, ct_rInverse_mod _ _ h _ rfl h0⟩
  · have h : (rightInt x && rightInt y) = false := by simpa using h
    exact ⟨(false, []), 2, by simp, ct_pInverse_bad _ _ h, ct_rInverse_bad _ _ h⟩
set_option maxHeartbeats 2000000 in
set_option maxRecDepth 100000 in
theorem ct_PowerMods (x z y : Raw) (hx : Small x.2) (hz : Small z.2) (hy : Small y.2) : Ct Tryz.prog 3 [aNum x, aNum z, aNum y] (.val (aB true)) := by
  refine ct_of_wp [.tmp 6] [(0, aNum x), (1, aNum z), (2, aNum y)] 73 Tryz.func3 rfl rfl rfl rfl rfl rfl rfl rfl ?_
  intro G0 w0
  have kA := ct_awake21
  by_cases h1 : (16 : Int) < (x.2.length : Int)
  · have h1 : decide ((16 : Int) < (x.2.length : Int)) = true := decide_eq_true h1
    repeat first | refine Wp_seq ?_ | refine Wp_region tm_mixed ?_ | refine AW_move rfl rfl ?_ | refine AW_assign rfl rfl ?_ | refine AW_box rfl rfl (row := true) rfl (fun h => by cases h) rfl ?_ | refine AW_quiet rfl (q_gtE rfl rfl h1) ?_ | refine AW_fieldAddr rfl tf_mag rfl rfl ?_ | refine AW_load rfl ty_mag rfl rfl rfl rfl ?_ | refine AW_len rfl rfl Tryz.underlying22 ?_ | refine AW_pickT rfl rfl rfl ?_ | refine AW_skip rfl rfl rfl rfl ?_ | refine AW_nil (fun (h : false = true) => by cases h) ?_
    refine Wp_condT rfl ?_
    repeat first | refine Wp_seq ?_ | refine Wp_region tm_mixed ?_ | refine AW_assign rfl rfl ?_ | refine AW_call rfl rfl (by first | exact kA) ?_ | refine AW_nil (fun (h : false = true) => by cases h) ?_ | refine Wp_ret ?_
    exact ⟨.inr rfl, _, .tmp _ _ _ _ rfl .nil, rfl⟩
  · have lx := h1
    have h1 : decide ((16 : Int) < (x.2.length : Int)) = false := decide_eq_false h1
    by_cases h2 : (16 : Int) < (y.2.length : Int)
    · have h2 : decide ((16 : Int) < (y.2.length : Int)) = true := decide_eq_true h2
      repeat first | refine Wp_seq ?_ | refine Wp_region tm_mixed ?_ | refine AW_move rfl rfl ?_ | refine AW_assign rfl rfl ?_ | refine AW_box rfl rfl (row := true) rfl (fun h => by cases h) rfl ?_ | refine AW_quiet rfl (q_gtE rfl rfl h1) ?_ | refine AW_fieldAddrg rfl rfl rfl rfl tf_mag rfl rfl ?_ | refine AW_loadg rfl rfl rfl rfl ty_mag rfl rfl rfl rfl ?_ | refine AW_quietg rfl rfl rfl rfl (q_len rfl rfl Tryz.underlying22) ?_ | refine AW_quietg rfl rfl rfl rfl (q_gtE rfl rfl h2) ?_ | refine AW_fieldAddr rfl tf_mag rfl rfl ?_ | refine AW_load rfl ty_mag rfl rfl rfl rfl ?_ | refine AW_len rfl rfl Tryz.underlying22 ?_ | refine AW_pickT rfl rfl rfl ?_ | refine AW_pickF rfl rfl rfl ?_ | refine AW_skip rfl rfl rfl rfl ?_ | refine AW_nil (fun (h : false = true) => by cases h) ?_
      refine Wp_condT rfl ?_
      repeat first | refine Wp_seq ?_ | refine Wp_region tm_mixed ?_ | refine AW_assign rfl rfl ?_ | refine AW_call rfl rfl (by first | exact kA) ?_ | refine AW_nil (fun (h : false = true) => by cases h) ?_ | refine Wp_ret ?_
      exact ⟨.inr rfl, _, .tmp _ _ _ _ rfl .nil, rfl⟩
    · have ly := h2
      have h2 : decide ((16 : Int) < (y.2.length : Int)) = false := decide_eq_false h2
      by_cases h3 : (3 : Int) < (z.2.length : Int)
      · have h3 : decide ((3 : Int) < (z.2.length : Int)) = true := decide_eq_true h3
        repeat first | refine Wp_seq ?_ | refine Wp_region tm_mixed ?_ | refine AW_move rfl rfl ?_ | refine AW_assign rfl rfl ?_ | refine AW_box rfl rfl (row := true) rfl (fun h => by cases h) rfl ?_ | refine AW_quiet rfl (q_gtE rfl rfl h1) ?_ | refine AW_fieldAddrg rfl rfl rfl rfl tf_mag rfl rfl ?_ | refine AW_loadg rfl rfl rfl rfl ty_mag rfl rfl rfl rfl ?_ | refine AW_quietg rfl rfl rfl rfl (q_len rfl rfl Tryz.underlying22) ?_ | refine AW_quietg rfl rfl rfl rfl (q_gtE rfl rfl h2) ?_ | refine AW_quietg rfl rfl rfl rfl (q_gtE rfl rfl h3) ?_ | refine AW_fieldAddr rfl tf_mag rfl rfl ?_ | refine AW_load rfl ty_mag rfl rfl rfl rfl ?_ | refine AW_len rfl rfl Tryz.underlying22 ?_ | refine AW_pickF rfl rfl rfl ?_ | refine AW_nil (fun (h : false = true) => by cases h) ?_
        refine Wp_condT rfl ?_
        repeat first | refine Wp_seq ?_ | refine Wp_region tm_mixed ?_ | refine AW_assign rfl rfl ?_ | refine AW_call rfl rfl (by first | exact kA) ?_ | refine AW_nil (fun (h : false = true) => by cases h) ?_ | refine Wp_ret ?_
        exact ⟨.inr rfl, _, .tmp _ _ _ _ rfl .nil, rfl⟩
      · have h3 : decide ((3 : Int) < (z.2.length : Int)) = false := decide_eq_false h3
        obtain ⟨R, e, hR, k1, k2⟩ := mod_both x z y hx hz hy (by omega) (by omega)
        obtain ⟨S, f, hS, k3, k4⟩ := inv_both x y hx hy (by omega) (by omega)
        have k5 := ct_lis R e (by omega)
        have k6 := ct_lis S f (by omega)
        repeat first | refine Wp_seq ?_ | refine Wp_region tm_mixed ?_ | refine AW_move rfl rfl ?_ | refine AW_assign rfl rfl ?_ | refine AW_box rfl rfl (row := true) rfl (fun h => by cases h) rfl ?_ | refine AW_quiet rfl (q_gtE rfl rfl h1) ?_ | refine AW_fieldAddrg rfl rfl rfl rfl tf_mag rfl rfl ?_ | refine AW_loadg rfl rfl rfl rfl ty_mag rfl rfl rfl rfl ?_ | refine AW_quietg rfl rfl rfl rfl (q_len rfl rfl Tryz.underlying22) ?_ | refine AW_quietg rfl rfl rfl rfl (q_gtE rfl rfl h2) ?_ | refine AW_quietg rfl rfl rfl rfl (q_gtE rfl rfl h3) ?_ | refine AW_fieldAddr rfl tf_mag rfl rfl ?_ | refine AW_load rfl ty_mag rfl rfl rfl rfl ?_ | refine AW_len rfl rfl Tryz.underlying22 ?_ | refine AW_pickF rfl rfl rfl ?_ | refine AW_nil (fun (h : false = true) => by cases h) ?_
        refine Wp_condF rfl ?_
        repeat first | refine Wp_seq ?_ | refine Wp_region tm_mixed ?_ | refine AW_move rfl rfl ?_ | refine AW_assign rfl rfl ?_ | refine AW_load rfl ty_num rfl rfl rfl rfl ?_ | refine AW_store ty_num rfl rfl rfl rfl rfl rfl rfl ?_ | refine AW_extract rfl rfl rfl ?_ | refine AW_alloc rfl tz_num ?_ | refine AW_call rfl rfl (by first | exact kA | exact k1 | exact k2 | exact k3 | exact k4 | exact k5 | exact k6) ?_ | refine AW_pickT rfl rfl rfl ?_ | refine AW_moveg rfl rfl rfl rfl rfl ?_ | refine AW_loadg rfl rfl rfl rfl ty_num rfl rfl rfl rfl ?_ | refine AW_callg rfl rfl rfl rfl rfl (by first | exact kA | exact k1 | exact k2 | exact k3 | exact k4 | exact k5 | exact k6) ?_ | refine AW_nil (fun (h : false = true) => by cases h) ?_ | refine Wp_skip ?_ | refine Wp_ret ?_
        exact ⟨.inr rfl, _, .tmp _ _ _ _ rfl .nil, rfl⟩
end Go.Proofs.YtjbagikfogejnaaGreatDoor
/- The law of layer 21, outright: known, modulus, like, within; PowerPlain, PowerAdds. -/
namespace Go.Proofs.YtjbagikfogejnaaGreatDoor
open Go.RowKit Go.Deep
theorem ct_known (x : Raw) (hx : Small x.2) (most : Nat) (hm : 1 ≤ most) (hm2 : most ≤ 6) : ∃ z : Int, lc z.natAbs ≤ most ∧ Ct Tryz.prog 39 [aNum x, .val (aI (most : Int))] (aZ z) := by
  have kR := ct_Right x
  have k10 := ct_lwZ (neg := false) (n := 10) 10 rfl (by decide) (by rw [W64_eq]; decide)
  by_cases h : rightInt x = true
  · rw [h] at kR
    by_cases h1 : (most : Int) < (x.2.length : Int)
    · have h1 : decide ((most : Int) < (x.2.length : Int)) = true := decide_eq_true h1
      refine ⟨10, Nat.le_trans (lc_small (by decide)) hm, ?_⟩
      refine ct_of_wp [.cell 4 24] [(0, aNum x), (1, .val (aI (most : Int)))] 17 Tryz.func39 rfl rfl rfl rfl rfl rfl rfl rfl ?_
      intro G0 w0
      repeat first | refine Wp_seq ?_ | refine Wp_region tm_mixed ?_ | refine AW_move rfl rfl ?_ | refine AW_load rfl ty_num rfl rfl rfl rfl ?_ | refine AW_alloc rfl tz_num ?_ | refine AW_box rfl rfl (row := true) rfl (fun h => by cases h) rfl ?_ | refine AW_not rfl rfl ?_ | refine AW_call rfl rfl (by first | exact kR | exact k10) ?_ | refine AW_fieldAddrg rfl rfl rfl rfl tf_mag rfl rfl ?_ | refine AW_loadg rfl rfl rfl rfl ty_mag rfl rfl rfl rfl ?_ | refine AW_quietg rfl rfl rfl rfl (q_len rfl rfl Tryz.underlying22) ?_ | refine AW_quietg rfl rfl rfl rfl (q_gtE rfl rfl h1) ?_ | refine AW_pickF rfl rfl rfl ?_ | refine AW_moveg rfl rfl rfl rfl rfl ?_ | refine AW_nil (fun (h : false = true) => by cases h) ?_
      refine Wp_condT rfl ?_
      repeat first | refine Wp_seq ?_ | refine Wp_region tm_mixed ?_ | refine AW_store ty_num rfl rfl rfl rfl rfl rfl rfl ?_ | refine AW_call rfl rfl (by first | exact k10) ?_ | refine AW_nil (fun (h : false = true) => by cases h) ?_ | refine Wp_ret ?_
      exact ⟨.inr rfl, _, .cell _ _ _ _ _ _ _ _ _ _ _ ty_num rfl rfl rfl .nil, rfl⟩
    · have h1' : decide ((most : Int) < (x.2.length : Int)) = false := decide_eq_false h1
      obtain ⟨z, rfl, lz⟩ := right_of_raw hx h
      refine ⟨z, by omega, ?_⟩
      refine ct_of_wp [.cell 4 24] [(0, aZ z), (1, .val (aI (most : Int)))] 17 Tryz.func39 rfl rfl rfl rfl rfl rfl rfl rfl ?_
      intro G0 w0
      repeat first | refine Wp_seq ?_ | refine Wp_region tm_mixed ?_ | refine AW_move rfl rfl ?_ | refine AW_load rfl ty_num rfl rfl rfl rfl ?_ | refine AW_alloc rfl tz_num ?_ | refine AW_box rfl rfl (row := true) rfl (fun h => by cases h) rfl ?_ | refine AW_not rfl rfl ?_ | refine AW_call rfl rfl (by first | exact kR | exact k10) ?_ | refine AW_fieldAddrg rfl rfl rfl rfl tf_mag rfl rfl ?_ | refine AW_loadg rfl rfl rfl rfl ty_mag rfl rfl rfl rfl ?_ | refine AW_quietg rfl rfl rfl rfl (q_len rfl rfl Tryz.underlying22) ?_ | refine AW_quietg rfl rfl rfl rfl (q_gtE rfl rfl h1') ?_ | refine AW_pickF rfl rfl rfl ?_ | refine AW_moveg rfl rfl rfl rfl rfl ?_ | refine AW_nil (fun (h : false = true) => by cases h) ?_
      refine Wp_condF rfl ?_
      repeat first | refine Wp_seq ?_ | refine Wp_region tm_mixed ?_ | refine AW_load rfl ty_num rfl rfl rfl rfl ?_ | refine AW_store ty_num rfl rfl rfl rfl rfl rfl rfl ?_ | refine AW_nil (fun (h : false = true) => by cases h) ?_ | refine Wp_skip ?_ | refine Wp_ret ?_
      exact ⟨.inr rfl, _, .cell _ _ _ _ _ _ _ _ _ _ _ ty_num rfl rfl rfl .nil, rfl⟩
  · have h : rightInt x = false := by simpa using h
    rw [h] at kR
    refine ⟨10, Nat.le_trans (lc_small (by decide)) hm, ?_⟩
    refine ct_of_wp [.cell 4 24] [(0, aNum x), (1, .val (aI (most : Int)))] 17 Tryz.func39 rfl rfl rfl rfl rfl rfl rfl rfl ?_
    intro G0 w0
    repeat first | refine Wp_seq ?_ | refine Wp_region tm_mixed ?_ | refine AW_move rfl rfl ?_ | refine AW_load rfl ty_num rfl rfl rfl rfl ?_ | refine AW_alloc rfl tz_num ?_ | refine AW_box rfl rfl (row := true) rfl (fun h => by cases h) rfl ?_ | refine AW_not rfl rfl ?_ | refine AW_call rfl rfl (by first | exact kR | exact k10) ?_ | refine AW_pickT rfl rfl rfl ?_ | refine AW_skip rfl rfl rfl rfl ?_ | refine AW_nil (fun (h : false = true) => by cases h) ?_
    refine Wp_condT rfl ?_
    repeat first | refine Wp_seq ?_ | refine Wp_region tm_mixed ?_ | refine AW_store ty_num rfl rfl rfl rfl rfl rfl rfl ?_ | refine AW_call rfl rfl (by first | exact k10) ?_ | refine AW_nil (fun (h : false = true) => by cases h) ?_ | refine Wp_ret ?_
    exact ⟨.inr rfl, _, .cell _ _ _ _ _ _ _ _ _ _ _ ty_num rfl rfl rfl .nil, rfl⟩
theorem ct_lmodulus (x : Raw) (hx : Small x.2) (most : Nat) (hm : 1 ≤ most) (hm2 : most ≤ 6) : ∃ m : Int, 0 < m ∧ lc m.natAbs ≤ most ∧ Ct Tryz.prog 40 [aNum x, .val (aI (most : Int))] (aZ m) := by
  obtain ⟨z, lz, kK⟩ := ct_known x hx most hm hm2
  have k1 := ct_lwZ (neg := false) (n := 1) 1 rfl (by decide) (by rw [W64_eq]; decide)
  by_cases h : z = 0
  · subst h
    have h0 : (((rawOf 0).2.length : Int) == 0) = true := by rw [rawOf_zero]; rfl
    refine ⟨1, by decide, Nat.le_trans (lc_small (by decide)) hm, ?_⟩
    refine ct_of_wp [.cell 4 24] [(0, aNum x), (1, .val (aI (most : Int)))] 15 Tryz.func40 rfl rfl rfl rfl rfl rfl rfl rfl ?_
    intro G0 w0
    repeat first | refine Wp_seq ?_ | refine Wp_region tm_mixed ?_ | refine AW_move rfl rfl ?_ | refine AW_load rfl ty_num rfl rfl rfl rfl ?_ | refine AW_store ty_num rfl rfl rfl rfl rfl rfl rfl ?_ | refine AW_alloc rfl tz_num ?_ | refine AW_box rfl rfl (row := true) rfl (fun h => by cases h) rfl ?_ | refine AW_call rfl rfl (by first | exact kK | exact k1) ?_ | refine AW_store1 ty_bool rfl rfl rfl rfl rfl ?_ | refine AW_quiet rfl (q_eqE rfl rfl h0) ?_ | refine AW_fieldAddr rfl tf_neg rfl rfl ?_ | refine AW_fieldAddr rfl tf_mag rfl rfl ?_ | refine AW_load rfl ty_mag rfl rfl rfl rfl ?_ | refine AW_len rfl rfl Tryz.underlying22 ?_ | refine AW_nil (fun (h : false = true) => by cases h) ?_
    refine Wp_condT rfl ?_
    repeat first | refine Wp_seq ?_ | refine Wp_region tm_mixed ?_ | refine AW_store ty_num rfl rfl rfl rfl rfl rfl rfl ?_ | refine AW_call rfl rfl (by first | exact k1) ?_ | refine AW_nil (fun (h : false = true) => by cases h) ?_ | refine Wp_ret ?_
    exact ⟨.inr rfl, _, .cell _ _ _ _ _ _ _ _ _ _ _ ty_num rfl rfl rfl .nil, rfl⟩
  · have h0 : (((rawOf z).2.length : Int) == 0) = false := beq_eq_false_iff_ne.2 fun e => h (rawOf_len0.1 (by omega))
    refine ⟨(z.natAbs : Int), by omega, by rw [Int.natAbs_natCast]; exact lz, ?_⟩
    refine ct_of_wp [.cell 4 24] [(0, aNum x), (1, .val (aI (most : Int)))] 15 Tryz.func40 rfl rfl rfl rfl rfl rfl rfl rfl ?_
    intro G0 w0
    repeat first | refine Wp_seq ?_ | refine Wp_region tm_mixed ?_ | refine AW_move rfl rfl ?_ | refine AW_load rfl ty_num rfl rfl rfl rfl ?_ | refine AW_store ty_num rfl rfl rfl rfl rfl rfl rfl ?_ | refine AW_alloc rfl tz_num ?_ | refine AW_box rfl rfl (row := true) rfl (fun h => by cases h) rfl ?_ | refine AW_call rfl rfl (by first | exact kK | exact k1) ?_ | refine AW_store1 ty_bool rfl rfl rfl rfl rfl ?_ | refine AW_quiet rfl (q_eqE rfl rfl h0) ?_ | refine AW_fieldAddr rfl tf_neg rfl rfl ?_ | refine AW_fieldAddr rfl tf_mag rfl rfl ?_ | refine AW_load rfl ty_mag rfl rfl rfl rfl ?_ | refine AW_len rfl rfl Tryz.underlying22 ?_ | refine AW_nil (fun (h : false = true) => by cases h) ?_
    refine Wp_condF rfl ?_
    repeat first | refine Wp_seq ?_ | refine Wp_region tm_mixed ?_ | refine AW_load rfl ty_num rfl rfl rfl rfl ?_ | refine AW_store ty_num rfl rfl rfl rfl rfl rfl rfl ?_ | refine AW_nil (fun (h : false = true) => by cases h) ?_ | refine Wp_skip ?_ | refine Wp_ret ?_
    exact ⟨.inr rfl, _, .cell _ _ _ _ _ _ _ _ _ _ _ ty_num rfl rfl rfl .nil, by unfold aZ; rw [abs_raw]; rfl⟩
set_option maxRecDepth 100000 in
theorem ct_like (a b m : Int) (ha : lc a.natAbs ≤ 1000) (hb : lc b.natAbs ≤ 1000) (hm : lc m.natAbs ≤ 1000) (h0 : 0 < m) (hd : (a - b) % m = 0) : Ct Tryz.prog 43 [aZ a, aZ b, aZ m] (.val (aB true)) := by
  refine ct_of_wp [.tmp 6] [(0, aZ a), (1, aZ b), (2, aZ m)] 35 Tryz.func43 rfl rfl rfl rfl rfl rfl rfl rfl ?_
  intro G0 w0
  have ls := lc_sub ha hb
  have k1 := ct_Sub0 a b (by omega) (by omega) (by omega)
  have k2 := ct_ModP (a - b) m (by omega) (by omega) h0
  rw [hd] at k2
  have hE : (((rawOf 0).2.length : Int) == 0) = true := by rw [rawOf_zero]; rfl
  repeat first | refine Wp_seq ?_ | refine Wp_region tm_mixed ?_ | refine AW_move rfl rfl ?_ | refine AW_assign rfl rfl ?_ | refine AW_load rfl ty_num rfl rfl rfl rfl ?_ | refine AW_store ty_num rfl rfl rfl rfl rfl rfl rfl ?_ | refine AW_extract rfl rfl rfl ?_ | refine AW_alloc rfl tz_num ?_ | refine AW_box rfl rfl (row := true) rfl (fun h => by cases h) rfl ?_ | refine AW_call rfl rfl (by first | exact k1 | exact k2) ?_ | refine AW_fieldAddrg rfl rfl rfl rfl tf_mag rfl rfl ?_ | refine AW_loadg rfl rfl rfl rfl ty_mag rfl rfl rfl rfl ?_ | refine AW_quietg rfl rfl rfl rfl (q_len rfl rfl Tryz.underlying22) ?_ | refine AW_quietg rfl rfl rfl rfl (q_eqE rfl rfl hE) ?_ | refine AW_pickT rfl rfl rfl ?_ | refine AW_moveg rfl rfl rfl rfl rfl ?_ | refine AW_eqg rfl rfl rfl rfl rfl rfl ?_ | refine AW_eq rfl rfl rfl ?_ | refine AW_nil (fun (h : false = true) => by cases h) ?_ | refine Wp_ret ?_
  exact ⟨.inr rfl, _, .tmp _ _ _ _ rfl .nil, rfl⟩
set_option maxRecDepth 100000 in
theorem ct_within (x m : Int) (hx0 : 0 ≤ x) (hx : x < m) (hm : lc m.natAbs ≤ 1000) : Ct Tryz.prog 44 [aZ x, aZ m] (.val (aB true)) := by
  refine ct_of_wp [.tmp 4] [(0, aZ x), (1, aZ m)] 24 Tryz.func44 rfl rfl rfl rfl rfl rfl rfl rfl ?_
  intro G0 w0
  have lx := lc_mono (show x.natAbs ≤ m.natAbs by omega)
  have k1 := ct_Cmp x m (by omega) (by omega)
  rw [cmpZ_lt hx] at k1
  have hG : mkAV false [AC.b (rawOf x).1] = aB false := by show AV.one (.b (decide (x < 0))) = _; rw [decide_eq_false (by omega)]
  repeat first | refine Wp_seq ?_ | refine Wp_region tm_mixed ?_ | refine AW_move rfl rfl ?_ | refine AW_assign rfl rfl ?_ | refine AW_load rfl ty_num rfl rfl rfl rfl ?_ | refine AW_extract rfl rfl rfl ?_ | refine AW_box rfl rfl (row := true) rfl (fun h => by cases h) rfl ?_ | refine AW_call rfl rfl (by first | exact k1) ?_ | refine AW_fieldAddrg rfl rfl rfl rfl tf_neg rfl rfl ?_ | refine AW_loadg rfl rfl rfl rfl ty_bool rfl rfl rfl hG ?_ | refine AW_quietg rfl rfl rfl rfl (q_ltE (t := true) rfl rfl rfl) ?_ | refine AW_pickT rfl rfl rfl ?_ | refine AW_moveg rfl rfl rfl rfl rfl ?_ | refine AW_notg rfl rfl rfl rfl rfl ?_ | refine AW_eq rfl rfl rfl ?_ | refine AW_nil (fun (h : false = true) => by cases h) ?_ | refine Wp_ret ?_
  exact ⟨.inr rfl, _, .tmp _ _ _ _ rfl .nil, rfl⟩
theorem raw1_ne {z : Int} (h : z ≠ 1) : decide (rawOf z = rawOf 1) = false := decide_eq_false fun e => h (rawOf_inj e)
set_option maxHeartbeats 4000000 in
set_option maxRecDepth 100000 in
theorem ct_PowerAdds (x y z t : Raw) (hx : Small x.2) (hy : Small y.2) (hz : Small z.2) (ht : Small t.2) : Ct Tryz.prog 10 [aNum x, aNum y, aNum z, aNum t] (.val (aB true)) := by
  refine ct_of_wp [.tmp 8] [(0, aNum x), (1, aNum y), (2, aNum z), (3, aNum t)] 153 Tryz.func10 rfl rfl rfl rfl rfl rfl rfl rfl ?_
  intro G0 w0
  have kA := ct_awake21
  obtain ⟨A, lA, k1⟩ := ct_known x hx 6 (by decide) (by decide)
  obtain ⟨E, lE, k2⟩ := ct_known y hy 2 (by decide) (by decide)
  obtain ⟨F, lF, k3⟩ := ct_known z hz 2 (by decide) (by decide)
  obtain ⟨M, h0, lM, k4⟩ := ct_lmodulus t ht 6 (by decide) (by decide)
  have k5 := ct_lwZ (neg := false) (n := 1) 1 rfl (by decide) (by rw [W64_eq]; decide)
  have k6 := ct_gOf A M (by omega) (by omega)
  have lg : lc (gcdZ A M).natAbs ≤ 6 := by unfold gcdZ; rw [Int.natAbs_natCast]; exact gcd_small (by omega) (by omega)
  have k7 := ct_Same (rawOf (gcdZ A M)) (rawOf 1) (by rw [len_raw]; omega)
  have l1 : lc (1 : Int).natAbs ≤ 1 := lc_small (by decide)
  have hin : ∀ e : Int, lc (powE A e M).natAbs ≤ 6 := fun e => by have := powE_in (a := A) (e := e) h0; exact Nat.le_trans (lc_mono (by omega)) lM
  by_cases hg : gcdZ A M = 1
  · rw [hg] at k6 k7
    rw [decide_eq_true rfl] at k7
    have k8 := ct_pInverse A M (by omega) (by omega) h0 hg
    obtain ⟨i0, i1, _⟩ := invZ_spec A M h0
    have lX : lc (invZ A M).natAbs ≤ 6 := Nat.le_trans (lc_mono (by omega)) lM
    have k9 := ct_Mul0 A (invZ A M) (by omega) (by omega) (by omega)
    have lP := lc_times (x := A) (y := invZ A M) lA lX
    have kB := ct_like (A * invZ A M) 1 M (by omega) (by omega) (by omega) h0 (inv_like h0 hg)
    have kC := ct_within (invZ A M) M i0 i1 (by omega)
    have lS := lc_plus (k := 2) lE lF
    have kD := ct_Add0 E F (by omega) (by omega) (by omega)
    have kE := ct_pMod A E M (by omega) (by omega) (by omega) h0 (.inr hg)
    have kF := ct_pMod A F M (by omega) (by omega) (by omega) h0 (.inr hg)
    have kG := ct_pMod A (E + F) M (by omega) (by omega) (by omega) h0 (.inr hg)
    have l2 := hin E
    have l3 := hin F
    have l4 := hin (E + F)
    have kH := ct_Mul0 (powE A E M) (powE A F M) (by omega) (by omega) (by omega)
    have lQ := lc_times (x := powE A E M) (y := powE A F M) l2 l3
    have hp := powE_in (a := A) (e := E + F) h0
    have kI := ct_within (powE A (E + F) M) M hp.1 hp.2 (by omega)
    have kJ := ct_like (powE A (E + F) M) (powE A E M * powE A F M) M (by omega) (by omega) (by omega) h0 (powE_add h0 (.inr hg))
    repeat first | refine Wp_seq ?_ | refine Wp_region tm_mixed ?_ | refine AW_assign rfl rfl ?_ | refine AW_box rfl rfl (row := true) rfl (fun h => by cases h) rfl ?_ | refine AW_not rfl rfl ?_ | refine AW_call rfl rfl (by first | exact kA | exact k1 | exact k2 | exact k3 | exact k4) ?_ | refine AW_nil (fun (h : false = true) => by cases h) ?_
    refine Wp_condF rfl ?_
    repeat first | refine Wp_seq ?_ | refine Wp_region tm_mixed ?_ | refine AW_move rfl rfl ?_ | refine AW_assign rfl rfl ?_ | refine AW_load rfl ty_num rfl rfl rfl rfl ?_ | refine AW_store ty_num rfl rfl rfl rfl rfl rfl rfl ?_ | refine AW_extract rfl rfl rfl ?_ | refine AW_alloc rfl tz_num ?_ | refine AW_call rfl rfl (by first | exact k1 | exact k2 | exact k3 | exact k4 | exact k5 | exact k6 | exact k7 | exact k8) ?_ | refine AW_ne rfl rfl rfl ?_ | refine AW_quietg rfl rfl rfl rfl (q_bne rfl rfl Tryz.underlying4) ?_ | refine AW_pickF rfl rfl rfl ?_ | refine AW_skip rfl rfl rfl rfl ?_ | refine AW_pickFg rfl rfl rfl rfl rfl rfl ?_ | refine AW_moveg rfl rfl rfl rfl rfl ?_ | refine AW_notg rfl rfl rfl rfl rfl ?_ | refine AW_eqg rfl rfl rfl rfl rfl rfl ?_ | refine AW_nil (fun (h : false = true) => by cases h) ?_ | refine AW_nil (fun (_ : true = true) => by kernel_rfl) ?_ | refine Wp_skip ?_
    refine Wp_condF rfl ?_
    repeat first | refine Wp_seq ?_ | refine Wp_region tm_mixed ?_ | refine AW_move rfl rfl ?_ | refine AW_nil (fun (h : false = true) => by cases h) ?_ | refine Wp_skip ?_
    refine Wp_condT rfl ?_
    repeat first | refine Wp_seq ?_ | refine Wp_region tm_mixed ?_ | refine AW_move rfl rfl ?_ | refine AW_assign rfl rfl ?_ | refine AW_load rfl ty_num rfl rfl rfl rfl ?_ | refine AW_store ty_num rfl rfl rfl rfl rfl rfl rfl ?_ | refine AW_extract rfl rfl rfl ?_ | refine AW_alloc rfl tz_num ?_ | refine AW_call rfl rfl (by first | exact k9 | exact k5 | exact kB | exact kC) ?_ | refine AW_ne rfl rfl rfl ?_ | refine AW_pickF rfl rfl rfl ?_ | refine AW_notg rfl rfl rfl rfl rfl ?_ | refine AW_loadg rfl rfl rfl rfl ty_num rfl rfl rfl rfl ?_ | refine AW_callg rfl rfl rfl rfl rfl (by first | exact k9 | exact k5 | exact kB | exact kC) ?_ | refine AW_nil (fun (h : false = true) => by cases h) ?_ | refine AW_nil (fun (_ : true = true) => by kernel_rfl) ?_
    refine Wp_condF rfl ?_
    repeat first | refine Wp_seq ?_ | refine Wp_region tm_mixed ?_ | refine AW_move rfl rfl ?_ | refine AW_assign rfl rfl ?_ | refine AW_load rfl ty_num rfl rfl rfl rfl ?_ | refine AW_store ty_num rfl rfl rfl rfl rfl rfl rfl ?_ | refine AW_extract rfl rfl rfl ?_ | refine AW_alloc rfl tz_num ?_ | refine AW_call rfl rfl (by first | exact kD | exact kE | exact kF | exact kG | exact kH | exact kI | exact kJ) ?_ | refine AW_pickT rfl rfl rfl ?_ | refine AW_moveg rfl rfl rfl rfl rfl ?_ | refine AW_eqg rfl rfl rfl rfl rfl rfl ?_ | refine AW_eq rfl rfl rfl ?_ | refine AW_loadg rfl rfl rfl rfl ty_num rfl rfl rfl rfl ?_ | refine AW_callg rfl rfl rfl rfl rfl (by first | exact kD | exact kE | exact kF | exact kG | exact kH | exact kI | exact kJ) ?_ | refine AW_nil (fun (h : false = true) => by cases h) ?_ | refine Wp_skip ?_ | refine Wp_ret ?_
    exact ⟨.inr rfl, _, .tmp _ _ _ _ rfl .nil, rfl⟩
  · rw [raw1_ne hg] at k7
    have k8 := ct_pInverse_none A M (by omega) (by omega) h0 hg
    obtain ⟨e, he⟩ : ∃ e : Nat, E.natAbs = e := ⟨_, rfl⟩
    have le : lc (E.natAbs : Int).natAbs ≤ 2 := by rw [Int.natAbs_natCast]; exact lE
    have lf : lc (F.natAbs : Int).natAbs ≤ 2 := by rw [Int.natAbs_natCast]; exact lF
    have lS := lc_plus (k := 2) le lf
    have kD := ct_Add0 (E.natAbs : Int) (F.natAbs : Int) (by omega) (by omega) (by omega)
    have kE := ct_pMod A (E.natAbs : Int) M (by omega) (by omega) (by omega) h0 (.inl (by omega))
    have kF := ct_pMod A (F.natAbs : Int) M (by omega) (by omega) (by omega) h0 (.inl (by omega))
    have kG := ct_pMod A ((E.natAbs : Int) + (F.natAbs : Int)) M (by omega) (by omega) (by omega) h0 (.inl (by omega))
    have l2 := hin (E.natAbs : Int)
    have l3 := hin (F.natAbs : Int)
    have l4 := hin ((E.natAbs : Int) + (F.natAbs : Int))
    have kH := ct_Mul0 (powE A (E.natAbs : Int) M) (powE A (F.natAbs : Int) M) (by omega) (by omega) (by omega)
    have lQ := lc_times (x := powE A (E.natAbs : Int) M) (y := powE A (F.natAbs : Int) M) l2 l3
    have hp := powE_in (a := A) (e := (E.natAbs : Int) + (F.natAbs : Int)) h0
    have kI := ct_within (powE A ((E.natAbs : Int) + (F.natAbs : Int)) M) M hp.1 hp.2 (by omega)
    have kJ := ct_like (powE A ((E.natAbs : Int) + (F.natAbs : Int)) M) (powE A (E.natAbs : Int) M * powE A (F.natAbs : Int) M) M (by omega) (by omega) (by omega) h0 (powE_add h0 (.inl ⟨by omega, by omega⟩))
    unfold aZ at kD kE kF
    rw [abs_raw E] at kD kE
    rw [abs_raw F] at kD kF
    repeat first | refine Wp_seq ?_ | refine Wp_region tm_mixed ?_ | refine AW_assign rfl rfl ?_ | refine AW_box rfl rfl (row := true) rfl (fun h => by cases h) rfl ?_ | refine AW_not rfl rfl ?_ | refine AW_call rfl rfl (by first | exact kA | exact k1 | exact k2 | exact k3 | exact k4) ?_ | refine AW_nil (fun (h : false = true) => by cases h) ?_
    refine Wp_condF rfl ?_
    repeat first | refine Wp_seq ?_ | refine Wp_region tm_mixed ?_ | refine AW_move rfl rfl ?_ | refine AW_assign rfl rfl ?_ | refine AW_load rfl ty_num rfl rfl rfl rfl ?_ | refine AW_store ty_num rfl rfl rfl rfl rfl rfl rfl ?_ | refine AW_extract rfl rfl rfl ?_ | refine AW_alloc rfl tz_num ?_ | refine AW_call rfl rfl (by first | exact k1 | exact k2 | exact k3 | exact k4 | exact k5 | exact k6 | exact k7 | exact k8) ?_ | refine AW_ne rfl rfl rfl ?_ | refine AW_neg rfl rfl rfl rfl rfl rfl ?_ | refine AW_quietg rfl rfl rfl rfl (q_bne rfl rfl Tryz.underlying4) ?_ | refine AW_pickF rfl rfl rfl ?_ | refine AW_pickTg rfl rfl rfl rfl rfl rfl ?_ | refine AW_moveg rfl rfl rfl rfl rfl ?_ | refine AW_notg rfl rfl rfl rfl rfl ?_ | refine AW_eqg rfl rfl rfl rfl rfl rfl ?_ | refine AW_nil (fun (h : false = true) => by cases h) ?_ | refine AW_nil (fun (_ : true = true) => by kernel_rfl) ?_ | refine Wp_skip ?_
    refine Wp_condF rfl ?_
    repeat first | refine Wp_seq ?_ | refine Wp_region tm_mixed ?_ | refine AW_move rfl rfl ?_ | refine AW_nil (fun (h : false = true) => by cases h) ?_ | refine Wp_skip ?_
    refine Wp_condF rfl ?_
    repeat first | refine Wp_seq ?_ | refine Wp_region tm_mixed ?_ | refine AW_move rfl rfl ?_ | refine AW_assign rfl rfl ?_ | refine AW_load rfl ty_num rfl rfl rfl rfl ?_ | refine AW_store ty_num rfl rfl rfl rfl rfl rfl rfl ?_ | refine AW_extract rfl rfl rfl ?_ | refine AW_alloc rfl tz_num ?_ | refine AW_call rfl rfl (by first | exact kD | exact kE | exact kF | exact kG | exact kH | exact kI | exact kJ) ?_ | refine AW_store1 ty_bool rfl rfl rfl rfl rfl ?_ | refine AW_fieldAddr rfl tf_neg rfl rfl ?_ | refine AW_pickT rfl rfl rfl ?_ | refine AW_moveg rfl rfl rfl rfl rfl ?_ | refine AW_eqg rfl rfl rfl rfl rfl rfl ?_ | refine AW_eq rfl rfl rfl ?_ | refine AW_loadg rfl rfl rfl rfl ty_num rfl rfl rfl rfl ?_ | refine AW_callg rfl rfl rfl rfl rfl (by first | exact kD | exact kE | exact kF | exact kG | exact kH | exact kI | exact kJ) ?_ | refine AW_nil (fun (h : false = true) => by cases h) ?_ | refine Wp_ret ?_
    exact ⟨.inr rfl, _, .tmp _ _ _ _ rfl .nil, rfl⟩
end Go.Proofs.YtjbagikfogejnaaGreatDoor
/- An abstract machine: fields of a record that is only read. -/
namespace Go.Proofs.YtjbagikfogejnaaGreatDoor
open Go.RowKit Go.Deep
def boolP (b : Bool) : Pred where
  is := fun _ _ v => v = .bool b
  cell := by
    rintro G w v rfl
    exact ⟨noLimb_bool _, rfl⟩
  stay := by
    rintro G w w' v h _
    exact h
  grow := by
    rintro G G' w v h _
    exact h
section
variable {P : Program} {d : Option Nat} {ty : TypeId} {pos : String} {aft : Array Edge} {ev : Operand → Option AR}
end
end Go.Proofs.YtjbagikfogejnaaGreatDoor
/- An abstract machine: the lesser and the greater of two. -/
namespace Go.Proofs.YtjbagikfogejnaaGreatDoor
open Go.RowKit Go.Deep
section
variable {P : Program} {d : Option Nat} {ty : TypeId} {pos : String} {aft : Array Edge} {ev : Operand → Option AR} {x y : Operand} {k : IntKind} {m c v : Int} {ats : Array TypeId}
theorem q_maxE (hx : ev x = some (.val (.one (.i k m)))) (hy : ev y = some (.val (.one (.i k c)))) (he : (if c > m then c else m) = v) :
    Quiet P ⟨d, .call { callee := .builtin .max, args := #[x, y], argTypes := ats }, ty, pos, aft, none⟩ ev (.val (.one (.i k v))) :=
  q_of2 hx hy (by simp [Op.operands, Call.operands]) (by simp [Op.operands, Call.operands]) fun G β w U ρ _ hk _ hk' => by
    subst he
    have hk : ρ x = .int k m := hk
    have hk' : ρ y = .int k c := hk'
    refine ⟨.int k (if c > m then c else m), ?_, rfl, trivial⟩
    unfold execOp
    simp only [resolve, invoke, builtin, Sem.run_bind, Sem.run_pure, Result.andThen_ok, List.map_toArray, List.map_cons, List.map_nil, hk, hk', Builtin.max_, List.foldlM_cons, List.foldlM_nil, Builtin.max2]
end
end Go.Proofs.YtjbagikfogejnaaGreatDoor
/- The package rosettekit: Pick. -/
namespace Go.Proofs.YtjbagikfogejnaaGreatDoor
open Go.RowKit Go.Deep
set_option maxRecDepth 100000 in
theorem kit_pick (x : Int) (n : Nat) (w : World) (hn : 1 ≤ n) (hn2 : n ≤ 1000) : Calls Tryz.prog 37 #[.int .i64 x, .int .i64 (n : Int)] w fun e w' => e = .returned (.int .i64 (x % (n : Int))) ∧ w = w' := by
  have h1 : (1 : Int) ≤ (n : Int) := by omega
  have h2 : (n : Int) ≤ 1000 := by omega
  have h0 : ((n : Int) == 0) = false := beq_eq_false_iff_ne.2 (by omega)
  obtain ⟨r, hr⟩ : ∃ r, x.tmod (n : Int) = r := ⟨_, rfl⟩
  have hrb : -(n : Int) < r ∧ r < (n : Int) := by
    rw [← hr]
    have h3 := Int.tmod_lt_of_pos x (b := (n : Int)) (by omega)
    have h4 := Int.lt_tmod_of_pos x (b := (n : Int)) (by omega)
    exact ⟨h4, h3⟩
  have HE := Lib.hid (show x % (n : Int) = if r < 0 then r + (n : Int) else r by
    rw [← hr]
    by_cases hx : 0 ≤ x
    · rw [Int.tmod_eq_emod_of_nonneg hx]
      have := Int.emod_nonneg x (b := (n : Int)) (by omega)
      rw [if_neg (by omega)]
    · have h5 := Int.tmod_eq_emod (a := x) (b := (n : Int))
      have h6 := Int.emod_nonneg x (b := (n : Int)) (by omega)
      have h7 := Int.emod_lt_of_pos x (b := (n : Int)) (by omega)
      rw [h5]
      split
      · rename_i hc
        rcases hc with hc | hc
        · omega
        · have := Int.emod_eq_zero_of_dvd hc
          rw [if_neg (by omega)]; omega
      · have h8 : ((n : Int).natAbs : Int) = (n : Int) := by omega
        rw [if_pos (by omega)]; omega)
  obtain ⟨hr1, hr2⟩ := hrb
  have HN := Lib.hid hn
  clear hn hn2
  by_cases hneg : r < 0
  · rw [HE.out, if_pos hneg]
    go_enter Tryz.func37, Tryz.ntmps37
    go_wp2_with fail
    go_ret
    exact ⟨rfl, rfl⟩
  · rw [HE.out, if_neg hneg]
    have hr0 : 0 ≤ r := by omega
    go_enter Tryz.func37, Tryz.ntmps37
    go_wp2_with fail
    go_ret
    exact ⟨rfl, rfl⟩
end Go.Proofs.YtjbagikfogejnaaGreatDoor
/- The law PowerLeast. -/
namespace Go.Proofs.YtjbagikfogejnaaGreatDoor
open Go.RowKit Go.Deep
theorem ct_Pick (x : Int) (n : Nat) (hn : 1 ≤ n) (hn2 : n ≤ 1000) : Ct Tryz.prog 37 [.val (aI x), .val (aI (n : Int))] (.val (aI (x % (n : Int)))) where
  enters := fun vals w => enters_of Tryz.func37 rfl rfl vals w
  nop := rfl
  calls := by
    intro G β w vals _ ha
    rcases vals with _ | ⟨u, _ | ⟨v, _ | ⟨t, vs⟩⟩⟩
    · exact ha.elim
    · exact ha.2.elim
    · obtain ⟨hu, hv, _⟩ := ha
      have hu : u = .int .i64 x := hu
      have hv : v = .int .i64 (n : Int) := hv
      subst hu hv
      refine (kit_pick x n w hn hn2).mono ?_
      rintro e w' ⟨rfl, rfl⟩
      exact ⟨_, rfl, rfl, Below.refl _ _⟩
    · exact ha.2.2.elim
set_option maxRecDepth 100000 in
theorem ct_lof (z : Int) (h1 : -9223372036854775807 ≤ z) (h2 : z < 9223372036854775808) : Ct Tryz.prog 36 [.val (aI z)] (aZ z) := by
  refine ct_of_wp [.cell 2 24] [(0, .val (aI z))] 14 Tryz.func36 rfl rfl rfl rfl rfl rfl rfl rfl ?_
  intro G0 w0
  have kA := ct_awake21
  by_cases h0 : z = 0
  · subst h0
    repeat first | refine Wp_seq ?_ | refine Wp_region tm_mixed ?_ | refine AW_move rfl rfl ?_ | refine AW_alloc rfl tz_num ?_ | refine AW_eq rfl rfl rfl ?_ | refine AW_nil (fun (h : false = true) => by cases h) ?_
    refine Wp_condT rfl ?_
    repeat first | refine Wp_seq ?_ | refine Wp_region tm_mixed ?_ | refine AW_store ty_num rfl rfl rfl rfl rfl rfl rfl ?_ | refine AW_build rfl tb_num rfl ?_ | refine AW_nil (fun (h : false = true) => by cases h) ?_ | refine Wp_ret ?_
    exact ⟨.inr rfl, _, .cell _ _ _ _ _ _ _ _ _ _ _ ty_num rfl rfl rfl .nil, by unfold aZ; rw [rawOf_zero]; rfl⟩
  · have hE : (z == 0) = false := beq_eq_false_iff_ne.2 h0
    have hN : IntKind.i64.wrap (0 - z) = -z := by rw [wrap_i64_in (by omega) (by omega)]; omega
    have hX : (if -z > z then -z else z) = ((z.natAbs : Nat) : Int) := by split <;> omega
    have hC : IntKind.u64.wrap ((z.natAbs : Nat) : Int) = ((z.natAbs : Nat) : Int) := by rw [IntKind.wrap_u64]; omega
    have kW := ct_lwZ (neg := decide (z < 0)) (n := z.natAbs) z (signed_of z).symm (by omega) (by rw [W64_eq]; omega)
    repeat first | refine Wp_seq ?_ | refine Wp_region tm_mixed ?_ | refine AW_move rfl rfl ?_ | refine AW_alloc rfl tz_num ?_ | refine AW_quiet rfl (q_eqE rfl rfl hE) ?_ | refine AW_nil (fun (h : false = true) => by cases h) ?_
    refine Wp_condF rfl ?_
    repeat first | refine Wp_seq ?_ | refine Wp_region tm_mixed ?_ | refine AW_move rfl rfl ?_ | refine AW_store ty_num rfl rfl rfl rfl rfl rfl rfl ?_ | refine AW_call rfl rfl (by first | exact kW) ?_ | refine AW_quiet rfl (q_ltE rfl rfl rfl) ?_ | refine AW_quiet rfl (q_negE rfl hN) ?_ | refine AW_quiet rfl (q_maxE rfl rfl hX) ?_ | refine AW_quiet rfl (q_convE rfl Tryz.underlying3 Tryz.underlying41 hC) ?_ | refine AW_nil (fun (h : false = true) => by cases h) ?_ | refine Wp_skip ?_ | refine Wp_ret ?_
    exact ⟨.inr rfl, _, .cell _ _ _ _ _ _ _ _ _ _ _ ty_num rfl rfl rfl .nil, rfl⟩
theorem leastF_range (n m : Nat) : ∀ d k, k ≤ leastF n m d k ∧ leastF n m d k ≤ k + d
  | 0, k => ⟨Nat.le_refl _, Nat.le_refl _⟩
  | d + 1, k => by
    simp only [leastF]
    split
    · omega
    · have := leastF_range n m d (k + 1); omega
theorem leastF_none (n m : Nat) : ∀ d k j, k ≤ j → j < leastF n m d k → n ^ j % m ≠ 1 % m
  | 0, k, j, h1, h2 => by simp only [leastF] at h2; omega
  | d + 1, k, j, h1, h2 => by
    simp only [leastF] at h2
    split at h2
    · omega
    · rename_i h
      by_cases hjk : j = k
      · subst hjk; exact h
      · exact leastF_none n m d (k + 1) j (by omega) h2
theorem fourP_whole : wholeP fourP = 15120 := by decide
set_option maxHeartbeats 4000000 in
set_option maxRecDepth 100000 in
theorem ct_PowerLeast (a m : Int) (ha : -9223372036854775808 ≤ a) (ha2 : a < 9223372036854775808) : Ct Tryz.prog 9 [.val (aI a), .val (aI m)] (.val (aB true)) := by
  refine ct_of_wp [.tmp 4] [(0, .val (aI a)), (1, .val (aI m))] 68 Tryz.func9 rfl rfl rfl rfl rfl rfl rfl rfl ?_
  intro G0 w0
  have kA := ct_awake21
  have k1 := ct_Pick m 50 (by decide) (by decide)
  obtain ⟨M, hM⟩ : ∃ M : Nat, 1 + m % ((50 : Nat) : Int) = (M : Int) := ⟨(1 + m % 50).toNat, by have := Int.emod_nonneg m (show (50 : Int) ≠ 0 by decide); show 1 + m % 50 = _; omega⟩
  have hM1 : 1 ≤ M ∧ M ≤ 50 := by
    have h1 := Int.emod_nonneg m (show (50 : Int) ≠ 0 by decide)
    have h2 := Int.emod_lt_of_pos m (show (0 : Int) < 50 by decide)
    have hM : 1 + m % 50 = (M : Int) := hM
    omega
  have hS : IntKind.i64.wrap (1 + m % ((50 : Nat) : Int)) = (M : Int) := by rw [hM, wrap_i64_in (by omega) (by omega)]
  have k2 := ct_Pick a M hM1.1 (by omega)
  obtain ⟨n, hn⟩ : ∃ n : Nat, a % (M : Int) = (n : Int) := ⟨(a % (M : Int)).toNat, by have := Int.emod_nonneg a (show (M : Int) ≠ 0 by omega); omega⟩
  have hnM : n < M := by have := Int.emod_lt_of_pos a (show (0 : Int) < (M : Int) by omega); omega
  rw [hn] at k2
  have f2 := ct_lof 2 (by decide) (by decide)
  have f3 := ct_lof 3 (by decide) (by decide)
  have f5 := ct_lof 5 (by decide) (by decide)
  have f7 := ct_lof 7 (by decide) (by decide)
  have fM := ct_lof (M : Int) (by omega) (by omega)
  have fA := ct_limbOf a ha ha2
  have la : lc a.natAbs ≤ 1 := lc_le.2 (by rw [Nat.pow_one, W64_eq]; omega)
  have lM : lc (M : Int).natAbs ≤ 1 := lc_small (by rw [Int.natAbs_natCast]; omega)
  have hall : ∀ x ∈ [rawOf a, rawOf (M : Int)] ++ psR fourP, rightInt x = true := by
    intro x hx
    have hs : ∀ z : Int, z.natAbs < 1000000 → rightInt (rawOf z) = true := fun z hz => right_raw (by have := lc_small hz; omega)
    simp only [psR, fourP, List.map_cons, List.map_nil, List.cons_append, List.nil_append, List.mem_cons, List.not_mem_nil, or_false] at hx
    rcases hx with rfl | rfl | rfl | rfl | rfl | rfl
    · exact right_raw (by omega)
    · exact right_raw (by omega)
    · exact hs 2 (by decide)
    · exact hs 3 (by decide)
    · exact hs 5 (by decide)
    · exact hs 7 (by decide)
  have lW : lc (wholeP fourP) ≤ 1000 := Nat.le_trans (lc_le.2 (show wholeP fourP < W64 ^ 1 by rw [W64_eq, fourP_whole]; decide)) (by decide)
  repeat first | refine Wp_seq ?_ | refine Wp_region tm_mixed ?_ | refine AW_assign rfl rfl ?_ | refine AW_not rfl rfl ?_ | refine AW_call rfl rfl (by first | exact kA) ?_ | refine AW_nil (fun (h : false = true) => by cases h) ?_
  refine Wp_condF rfl ?_
  have hM0 : (0 : Int) < (M : Int) := by omega
  by_cases hg : gcdZ a (M : Int) = 1
  · by_cases hz : isN n M 15120 = true
    · have hZ : isZ (a % (M : Int)) (M : Int) (wholeP fourP) = true := by rw [hn, isZ_nat, fourP_whole]; exact hz
      have kO := ct_Order_ok a (M : Int) fourP (by omega) (by omega) hM0 (by decide) (by decide) (by decide) lW hall hg hZ
      obtain ⟨e1, e2⟩ := least_all M (by omega) n hnM hz
      obtain ⟨D, hD⟩ : ∃ D, leastF n M 50 1 = D := ⟨_, rfl⟩
      have hr := leastF_range n M 50 1
      have hnone := leastF_none n M 50 1
      rw [hD] at e1 e2 hr hnone
      have e3 : downs (isZ (a % (M : Int)) (M : Int)) fourP (wholeP fourP) = D := by
        have : isZ (a % (M : Int)) (M : Int) = isN n M := funext fun k => by rw [hn, isZ_nat]
        rw [this, fourP_whole, ← e1]
      rw [e3] at kO
      have lD : lc (D : Int).natAbs ≤ 1 := lc_small (by rw [Int.natAbs_natCast]; omega)
      have kS := ct_SameT (rawOf (D : Int)) (by rw [len_raw]; omega)
      have fD := ct_lof (D : Int) (by omega) (by omega)
      have hR : ((n : Int)).tmod (M : Int) = ((n % M : Nat) : Int) := rfl
      repeat first | refine Wp_seq ?_ | refine Wp_region tm_mixed ?_ | refine AW_move rfl rfl ?_ | refine AW_assign rfl rfl ?_ | refine AW_store ty_num rfl rfl rfl rfl rfl rfl rfl ?_ | refine AW_extract rfl rfl rfl ?_ | refine AW_alloc rfl tz_num ?_ | refine AW_call rfl rfl (by first | exact kA | exact k1 | exact k2 | exact f2 | exact f3 | exact f5 | exact f7 | exact fM | exact fA | exact kO) ?_ | refine AW_ints rfl tu_nums ti_num ti_size ti_zero rfl rfl rfl (.cons _ _ _ _ _ rfl (.cons _ _ _ _ _ rfl (.cons _ _ _ _ _ rfl (.cons _ _ _ _ _ rfl (.nil _))))) ?_ | refine AW_quiet rfl (q_buildIs (xs := [4, 3, 1, 1]) rfl rfl rfl tu_ints ti_int ti_isize ti_izero (.cons _ _ _ _ _ rfl (.cons _ _ _ _ _ rfl (.cons _ _ _ _ _ rfl (.cons _ _ _ _ _ rfl (.nil _)))))) ?_ | refine AW_quiet rfl (q_addE rfl rfl hS) ?_ | refine AW_ne rfl rfl rfl ?_ | refine AW_nil (fun (h : false = true) => by cases h) ?_ | refine Wp_skip ?_
      refine Wp_condF rfl ?_
      repeat first | refine Wp_seq ?_ | refine Wp_region tm_mixed ?_ | refine AW_move rfl rfl ?_ | refine AW_assign rfl rfl ?_ | refine AW_quiet rfl (q_remE rfl rfl (by omega) hR) ?_ | refine AW_nil (fun (h : false = true) => by cases h) ?_ | refine Wp_block ?_ | refine Wp_skip ?_
      refine Wp_loop (fun k : Nat => ⟨[(1, .val (aI (M : Int))), (5, .val (aI (n : Int))), (7, .val (.one (.ptr 0 0))), (9, .val (aI ((n ^ k % M : Nat) : Int))), (10, .val (aI (k : Int)))], [(0, 24, [.b (rawOf (D : Int)).1, .st (magP (rawOf (D : Int)).2)])], 1⟩) (fun k => 1 ≤ k ∧ k ≤ D) (fun k => D - k) 1 ⟨Nat.le_refl _, hr.1⟩
        (le_of ⟨rfl, rfl, rfl, by dsimp only; rw [Nat.pow_one]; rfl, rfl, trivial⟩ ⟨rfl, trivial⟩ rfl) ?_
      rintro k ⟨hk1, hk2⟩
      have hL : decide ((k : Int) ≤ 15120) = true := decide_eq_true (by omega)
      have h1M : (1 : Int).tmod (M : Int) = ((1 % M : Nat) : Int) := rfl
      repeat first | refine Wp_seq ?_ | refine Wp_region tm_mixed ?_ | refine AW_move rfl rfl ?_ | refine AW_quiet rfl (q_leE rfl rfl hL) ?_ | refine AW_nil (fun (h : false = true) => by cases h) ?_
      refine Wp_condT rfl ?_
      by_cases hkD : k = D
      · subst hkD
        have hE : (((n ^ k % M : Nat) : Int) == ((1 % M : Nat) : Int)) = true := by rw [e2]; simp
        repeat first | refine Wp_seq ?_ | refine Wp_region tm_mixed ?_ | refine AW_move rfl rfl ?_ | refine AW_quiet rfl (q_remE rfl rfl (by omega) h1M) ?_ | refine AW_quiet rfl (q_eqE rfl rfl hE) ?_ | refine AW_nil (fun (h : false = true) => by cases h) ?_ | refine Wp_block ?_ | refine Wp_skip ?_
        refine Wp_condT rfl ?_
        repeat first | refine Wp_seq ?_ | refine Wp_region tm_mixed ?_ | refine AW_move rfl rfl ?_ | refine AW_assign rfl rfl ?_ | refine AW_load rfl ty_num rfl rfl rfl rfl ?_ | refine AW_call rfl rfl (by first | exact fD | exact kS) ?_ | refine AW_nil (fun (_ : true = true) => by kernel_rfl) ?_ | refine Wp_ret ?_
        exact ⟨.inr rfl, _, .tmp _ _ _ _ rfl .nil, rfl⟩
      · have hE : (((n ^ k % M : Nat) : Int) == ((1 % M : Nat) : Int)) = false := beq_eq_false_iff_ne.2 fun e => hnone k hk1 (by omega) (by omega)
        obtain ⟨X, hX⟩ : ∃ X, n ^ k % M = X := ⟨_, rfl⟩
        have hXM : X < M := by rw [← hX]; exact Nat.mod_lt _ (by omega)
        have hXn : X * n ≤ 2500 := Nat.le_trans (Nat.mul_le_mul (show X ≤ 50 by omega) (show n ≤ 50 by omega)) (by decide)
        rw [hX] at hE ⊢
        have h9 : n ^ (k + 1) % M = X * n % M := by rw [Nat.pow_succ, ← Nat.mod_mul_mod, hX]
        have hP : IntKind.i64.wrap ((X : Int) * (n : Int)) = ((X * n : Nat) : Int) := by rw [← Int.natCast_mul, wrap_i64_in (by omega) (by omega)]
        have hQ : ((X * n : Nat) : Int).tmod (M : Int) = ((X * n % M : Nat) : Int) := rfl
        have hA := lt_facts (k := k) (by omega)
        repeat first | refine Wp_seq ?_ | refine Wp_region tm_mixed ?_ | refine AW_move rfl rfl ?_ | refine AW_quiet rfl (q_remE rfl rfl (by omega) h1M) ?_ | refine AW_quiet rfl (q_eqE rfl rfl hE) ?_ | refine AW_nil (fun (h : false = true) => by cases h) ?_ | refine Wp_block ?_ | refine Wp_skip ?_
        refine Wp_condF rfl ?_
        repeat first | refine Wp_region tm_mixed ?_ | refine AW_move rfl rfl ?_ | refine AW_assign rfl rfl ?_ | refine AW_quiet rfl (q_mulE rfl rfl hP) ?_ | refine AW_quiet rfl (q_remE rfl rfl (by omega) hQ) ?_ | refine AW_quiet rfl (q_addE rfl rfl hA) ?_ | refine AW_nil (fun (h : false = true) => by cases h) ?_ | refine Wp_skip ?_
        exact ⟨k + 1, ⟨by omega, by omega⟩, le_of ⟨rfl, rfl, rfl, by dsimp only; rw [h9]; rfl, rfl, trivial⟩ ⟨rfl, trivial⟩ rfl, by show D - (k + 1) < D - k; omega⟩
    · have hZ : isZ (a % (M : Int)) (M : Int) (wholeP fourP) = false := by rw [hn, isZ_nat, fourP_whole]; simpa using hz
      have kO := ct_Order_not a (M : Int) fourP (by omega) (by omega) hM0 (by decide) (by decide) (by decide) lW hall hg hZ
      repeat first | refine Wp_seq ?_ | refine Wp_region tm_mixed ?_ | refine AW_move rfl rfl ?_ | refine AW_assign rfl rfl ?_ | refine AW_store ty_num rfl rfl rfl rfl rfl rfl rfl ?_ | refine AW_extract rfl rfl rfl ?_ | refine AW_alloc rfl tz_num ?_ | refine AW_call rfl rfl (by first | exact kA | exact k1 | exact k2 | exact f2 | exact f3 | exact f5 | exact f7 | exact fM | exact fA | exact kO) ?_ | refine AW_ints rfl tu_nums ti_num ti_size ti_zero rfl rfl rfl (.cons _ _ _ _ _ rfl (.cons _ _ _ _ _ rfl (.cons _ _ _ _ _ rfl (.cons _ _ _ _ _ rfl (.nil _))))) ?_ | refine AW_quiet rfl (q_buildIs (xs := [4, 3, 1, 1]) rfl rfl rfl tu_ints ti_int ti_isize ti_izero (.cons _ _ _ _ _ rfl (.cons _ _ _ _ _ rfl (.cons _ _ _ _ _ rfl (.cons _ _ _ _ _ rfl (.nil _)))))) ?_ | refine AW_quiet rfl (q_addE rfl rfl hS) ?_ | refine AW_ne rfl rfl rfl ?_ | refine AW_nil (fun (h : false = true) => by cases h) ?_ | refine Wp_skip ?_
      refine Wp_condT rfl ?_
      repeat first | refine Wp_seq ?_ | refine Wp_region tm_mixed ?_ | refine AW_move rfl rfl ?_ | refine AW_assign rfl rfl ?_ | refine AW_fieldAddrg rfl rfl rfl rfl tf_mag rfl rfl ?_ | refine AW_loadg rfl rfl rfl rfl ty_mag rfl rfl rfl rfl ?_ | refine AW_quietg rfl rfl rfl rfl (q_len rfl rfl Tryz.underlying22) ?_ | refine AW_pickF rfl rfl rfl ?_ | refine AW_pickTg rfl rfl rfl rfl rfl rfl ?_ | refine AW_moveg rfl rfl rfl rfl rfl ?_ | refine AW_eqg rfl rfl rfl rfl rfl rfl ?_ | refine AW_eq rfl rfl rfl ?_ | refine AW_nil (fun (h : false = true) => by cases h) ?_ | refine Wp_ret ?_
      exact ⟨.inr rfl, _, .tmp _ _ _ _ rfl .nil, rfl⟩
  · have kO := ct_Order_none a (M : Int) fourP (by omega) (by omega) hM0 (by decide) (by decide) (by decide) lW hall hg
    repeat first | refine Wp_seq ?_ | refine Wp_region tm_mixed ?_ | refine AW_move rfl rfl ?_ | refine AW_assign rfl rfl ?_ | refine AW_store ty_num rfl rfl rfl rfl rfl rfl rfl ?_ | refine AW_extract rfl rfl rfl ?_ | refine AW_alloc rfl tz_num ?_ | refine AW_call rfl rfl (by first | exact kA | exact k1 | exact k2 | exact f2 | exact f3 | exact f5 | exact f7 | exact fM | exact fA | exact kO) ?_ | refine AW_ints rfl tu_nums ti_num ti_size ti_zero rfl rfl rfl (.cons _ _ _ _ _ rfl (.cons _ _ _ _ _ rfl (.cons _ _ _ _ _ rfl (.cons _ _ _ _ _ rfl (.nil _))))) ?_ | refine AW_quiet rfl (q_buildIs (xs := [4, 3, 1, 1]) rfl rfl rfl tu_ints ti_int ti_isize ti_izero (.cons _ _ _ _ _ rfl (.cons _ _ _ _ _ rfl (.cons _ _ _ _ _ rfl (.cons _ _ _ _ _ rfl (.nil _)))))) ?_ | refine AW_quiet rfl (q_addE rfl rfl hS) ?_ | refine AW_ne rfl rfl rfl ?_ | refine AW_nil (fun (h : false = true) => by cases h) ?_ | refine Wp_skip ?_
    refine Wp_condT rfl ?_
    repeat first | refine Wp_seq ?_ | refine Wp_region tm_mixed ?_ | refine AW_move rfl rfl ?_ | refine AW_assign rfl rfl ?_ | refine AW_pickT rfl rfl rfl ?_ | refine AW_skip rfl rfl rfl rfl ?_ | refine AW_skipu rfl rfl rfl ?_ | refine AW_eq rfl rfl rfl ?_ | refine AW_nil (fun (h : false = true) => by cases h) ?_ | refine Wp_ret ?_
    exact ⟨.inr rfl, _, .tmp _ _ _ _ rfl .nil, rfl⟩
end Go.Proofs.YtjbagikfogejnaaGreatDoor
/- Arguments are opened; what a call leaves reads as it read. -/
namespace Go.Proofs.YtjbagikfogejnaaGreatDoor
open Go.ChangeShapes Go.WideShapes Go.ChangeAt Go.RowKit Go.Deep
theorem laid_out : laidOutB Tryz.prog = true := by kernel_rfl
section
variable {H : Type} {enc : TypeId × Value → H}
theorem since_of_below {w w' : World} (h : Below w.heap.size w w') : w.Since w.heap.size w' := ⟨h.os, h.tape, h.output, h.size, h.block⟩
/-- What was read before reads so behind a call that wrote nothing old. -/
theorem stays {t : TypeId} (hr : Tryz.prog.readableRec t = true) (hrow : t < Tryz.prog.types.size) {W W' : World} {sp : Nat → Bool} {v : Value} {d : DataW H} {ps : List MemPlace}
    (h : DataW.Trod enc Tryz.prog W 0 (fun _ => true) true t v d ps) (hb : Below W.heap.size W W') (hl : ∀ p ∈ ps, p.block < W.heap.size) (hs : ∀ p ∈ ps, sp p.block = true) : DataW.Trod enc Tryz.prog W' 0 sp true t v d ps :=
  WideElems.Trod_stays laid_out hr hrow h (fun p hp => (since_of_below hb).sameAt (hl p hp)) hs
set_option maxRecDepth 10000 in
/-- The statement of a law's row, out of a walk that wrote nothing old. -/
theorem post_law {f : Func} {s : ChangeSpec} {W W' : World} {args : Array Value} {v : Value} {ds gs : List (DataW H)} {before : List MemPlace}
    (hW : DataW.Whole enc Tryz.prog f.params.toList s.vars false W args.toList ds gs before) (hb : Below W.heap.size W W')
    (hres : ∀ (b : Nat) (sp : Nat → Bool) (hd : Bool), DataW.TrodAll enc Tryz.prog W' b sp hd f.resultTypes.toList (v.resultList f.resultTypes.size) (s.fn H (ds ++ gs)).results [])
    (hargs : ∀ sp : Nat → Bool, (∀ p ∈ before, sp p.block = true) → DataW.TrodAll enc Tryz.prog W' 0 sp true f.params.toList args.toList (s.fn H (ds ++ gs)).args before)
    (hvars : ∀ sp : Nat → Bool, DataW.TrodVars enc Tryz.prog W' sp s.vars (s.fn H (ds ++ gs)).vars [])
    (hok : ∀ (j : Nat) (t : TypeId) (r : Value), f.resultTypes[j]? = some t → (v.resultList f.resultTypes.size)[j]? = some r → Value.okWide Tryz.prog W' .any 0 t r) :
    s.post enc Tryz.prog f false true false false W args v W' := by
  have hlt : ∀ p ∈ before, p.block < W.heap.size := fun p hp => hW.lt p hp
  have hold : ∀ p ∈ before, (fun b => decide (b < W.heap.size)) p.block = true := fun p hp => by simpa using hlt p hp
  refine ⟨ds, gs, before, [], before, [], hW, hres _ _ _, hargs _ hold, hvars _, World.keptBut_mono (fun p hp => ⟨hp, .inr (.inl hp)⟩) ((since_of_below hb).frame (· ∈ before)), fun _ => ?_⟩
  obtain ⟨_, _, _, _, _, hz, _⟩ := hW
  refine ⟨hok, _, _, ([] ++ before) ++ [], ⟨[] ++ before, [], trodAll_append (hargs _ (fun _ _ => rfl)) (hres _ _ _), hvars _, rfl, ?_, fun h => by cases h⟩, fun p hp _ => by simpa using hp⟩
  intro b off hp
  have hp' : MemPlace.cell b off ∈ before := by simpa using hp
  rw [(since_of_below hb).frozen (a := ⟨b, off, none⟩) (hlt _ hp')]
  exact hz b off hp'
theorem cells_rec : Tryz.prog.cellsOf 24 = 2 := by kernel_rfl
theorem cells_u64 : Tryz.prog.cellsOf 41 = 1 := by kernel_rfl
theorem cells_bool : Tryz.prog.cellsOf 4 = 1 := by kernel_rfl
theorem cells_limbs : Tryz.prog.cellsOf 22 = 1 := by kernel_rfl
/-- A slice of limbs that came in. -/
theorem open_limbs {W : World} {v : Value} {x : DataW H × List MemPlace} {n : Nat} (h : DataW.trod enc Tryz.prog W 0 (fun _ => true) true n 22 [v] = some x) : ∃ A l c xs, v = .slice A l c ∧ l = xs.length ∧ l ≤ c ∧ Lim W W.heap.size A xs := by
  rcases open_ints (k := .u64) Tryz.underlying22 Tryz.underlying41 cells_u64 h with ⟨e, _⟩ | ⟨a, len, cap, zs, e, _, hl, hm, hzl, _, hc, hwf⟩
  · injection e with e
    exact ⟨none, 0, 0, [], e, rfl, Nat.le_refl _, Lim.nil _ _ _⟩
  · injection e with e
    simp only [if_true] at hzl
    have hnn : ∀ z ∈ zs, 0 ≤ z ∧ z < 18446744073709551616 := by
      intro z hz
      have h1 := hwf z hz
      simp only [Lit.wf, IntKind.min, IntKind.max, IntKind.signed, IntKind.bits, Bool.and_eq_true] at h1
      obtain ⟨h2, h3⟩ := h1
      simp at h2 h3
      omega
    refine ⟨some a, len, cap, (zs.take len).map Int.toNat, e, by simp; omega, hl, ?_, fun hp => ⟨a, rfl, ?_, fun j hj => ?_⟩⟩
    · intro y hy
      obtain ⟨z, hz, rfl⟩ := List.mem_map.1 hy
      have h1 := hnn z (List.mem_of_mem_take hz)
      rw [W64_eq]; omega
    · simp at hp
      have h1 := hc 0 (by omega)
      have h2 := World.block_lt_of_cell? W (a.add 0) h1
      rwa [block_of_add] at h2
    · simp at hj
      rw [hc j (by omega)]
      have h1 := hnn (zs.getD j 0) (by
        rw [List.getD_eq_getElem?_getD, List.getElem?_eq_getElem (by omega)]; exact List.getElem_mem _)
      have e1 : ((zs.take len).map Int.toNat).getD j 0 = (zs.getD j 0).toNat := by
        have h2 : j < len := by omega
        have h3 : j < zs.length := by omega
        simp [h2, h3]
      rw [e1]
      congr 2
      omega
set_option maxRecDepth 100000 in
/-- A record that came in. -/
theorem open_raw {W : World} {base : Nat} {v : Value} {d : DataW H} {ps : List MemPlace} (hv : Value.okWide Tryz.prog W .any base 24 v) (h : DataW.Trod enc Tryz.prog W 0 (fun _ => true) true 24 v d ps) : ∃ b A l c xs, v = .agg #[.bool b, .slice A l c] ∧ l = xs.length ∧ l ≤ c ∧ Lim W W.heap.size A xs := by
  obtain ⟨cs, rfl, hsz⟩ := okWide_struct Tryz.underlying24 hv
  rw [cells_rec] at hsz
  obtain ⟨fuel, hf⟩ := h
  obtain ⟨x, y, rfl⟩ : ∃ x y, cs = #[x, y] := by
    obtain ⟨l⟩ := cs
    match l, hsz with
    | [x, y], _ => exact ⟨x, y, rfl⟩
  obtain ⟨xs, k, hk, hxy, _, hxl, hg⟩ := DataW.trod_struct Tryz.underlying24 hf
  match xs, hxl with
  | [y0, y1], _ =>
    have g0 := hg 0 _ rfl
    have g1 := hg 1 _ rfl
    simp [Value.cells, cells_bool, cells_limbs] at g0 g1
    obtain ⟨b, e0, _⟩ := DataW.trod_bool Tryz.underlying4 g0
    obtain ⟨A, l, c, xs, e1, hl1, hc1, hlim⟩ := open_limbs g1
    injection e0 with e0
    exact ⟨b, A, l, c, xs, by rw [e0, e1], hl1, hc1, hlim⟩
/-- A slice of records that came in. -/
theorem open_poly {W : World} {A0 : Option Addr} {l0 c0 : Nat} {d : DataW H} {ps : List MemPlace} (h : DataW.Trod enc Tryz.prog W 0 (fun _ => true) true 35 (.slice A0 l0 c0) d ps) : ∃ xs : List Raw, l0 = xs.length ∧ l0 ≤ c0 ∧ Poly W W.heap.size A0 xs := by
  obtain ⟨fuel, hf⟩ := h
  rcases open_slice_pairs Tryz.underlying35 Tryz.underlying24 cells_rec rfl rfl cells_bool cells_limbs hf with ⟨e, _⟩ | ⟨a, len, cap, m, n, V0, V1, D0, D1, P0, P1, e, _, hl, hm, hmm, _, hc⟩
  · simp [Value.cells] at e
    obtain ⟨rfl, rfl, rfl⟩ := e
    exact ⟨[], rfl, Nat.le_refl _, Poly.nil _ _ _⟩
  · simp [Value.cells] at e
    obtain ⟨rfl, rfl, rfl⟩ := e
    simp only [if_true] at hmm
    subst hmm
    have each : ∀ i, i < l0 → ∃ q : Raw × (Option Addr × Nat × Nat), W.cell? (a.add (i * 2)) = some (.bool q.1.1) ∧ W.cell? (a.add (i * 2 + 1)) = some (.slice q.2.1 q.2.2.1 q.2.2.2) ∧ q.2.2.1 = q.1.2.length ∧ q.2.2.1 ≤ q.2.2.2 ∧ Lim W W.heap.size q.2.1 q.1.2 := by
      intro i hi
      obtain ⟨h0, h1, t0, t1⟩ := hc i (by omega)
      obtain ⟨b, e0, _⟩ := DataW.trod_bool Tryz.underlying4 t0
      obtain ⟨A, l, c, xs, e1, hl1, hc1, hlim⟩ := open_limbs t1
      injection e0 with e0
      exact ⟨((b, xs), (A, l, c)), by rw [h0, e0], by rw [h1, e1], hl1, hc1, hlim⟩
    haveI : Inhabited (Raw × (Option Addr × Nat × Nat)) := ⟨((false, []), (none, 0, 0))⟩
    obtain ⟨q, hq⟩ := choose_lt each
    refine ⟨(List.range l0).map fun i => (q i).1, by simp, hl, ⟨fun hp => ⟨a, rfl, ?_, fun j hj => ?_⟩⟩⟩
    · simp at hp
      have h1 := (hq 0 hp).1
      have h2 := World.block_lt_of_cell? W (a.add (0 * 2)) h1
      rwa [block_of_add] at h2
    · simp at hj
      obtain ⟨h0, h1, h2, h3, h4⟩ := hq j hj
      have e1 : ((List.range l0).map fun i => (q i).1).getD j (false, []) = (q j).1 := by simp [hj]
      rw [e1]
      refine ⟨_, _, _, h0, ?_, h2, h3, h4⟩
      rw [← h1, show a.add (j * 2 + 1) = ⟨(a.add (j * 2)).block, (a.add (j * 2)).off + 1, none⟩ by
        rw [add_succ]
        unfold Addr.add
        by_cases hj0 : j * 2 = 0
        · rw [if_pos hj0, hj0]
        · rw [if_neg hj0]; rfl]
theorem cells_int : Tryz.prog.cellsOf 3 = 1 := by kernel_rfl
/-- A slice of ints that came in. -/
theorem open_nums {W : World} {A0 : Option Addr} {l0 c0 : Nat} {d : DataW H} {ps : List MemPlace} (h : DataW.Trod enc Tryz.prog W 0 (fun _ => true) true 36 (.slice A0 l0 c0) d ps) : ∃ xs : List Int, l0 = xs.length ∧ l0 ≤ c0 ∧ (l0 : Int) ≤ 9223372036854775807 ∧ Nums W W.heap.size A0 xs := by
  obtain ⟨fuel, hf⟩ := h
  rcases open_ints (k := .i64) Tryz.underlying36 Tryz.underlying3 cells_int hf with ⟨e, _⟩ | ⟨a, len, cap, zs, e, _, hl, hm, hzl, _, hc, hwf⟩
  · simp [Value.cells] at e
    obtain ⟨rfl, rfl, rfl⟩ := e
    exact ⟨[], rfl, Nat.le_refl _, by simp, Nums.nil _ _ _⟩
  · simp [Value.cells] at e
    obtain ⟨rfl, rfl, rfl⟩ := e
    simp only [if_true] at hzl
    have hm2 : l0 ≤ 9223372036854775807 := by
      have : maxLen ≤ 9223372036854775807 := by decide
      omega
    refine ⟨zs.take l0, by simp; omega, hl, by omega, ⟨fun hp => ⟨a, rfl, ?_, fun j hj => ?_⟩⟩⟩
    · simp at hp
      have h1 := hc 0 (by omega)
      have h2 := World.block_lt_of_cell? W (a.add 0) h1
      rwa [block_of_add] at h2
    · simp at hj
      rw [hc j (by omega)]
      have h2 : j < l0 := by omega
      have h3 : j < zs.length := by omega
      simp [h2, h3]
end
end Go.Proofs.YtjbagikfogejnaaGreatDoor
/- What the row's listed variable holds, as the machine asks it. -/
namespace Go.Proofs.YtjbagikfogejnaaGreatDoor
open Go.ChangeShapes Go.WideShapes Go.ChangeAt Go.RowKit Go.Deep
theorem own_knob : ownKnob Tryz.prog.godebug = none := by kernel_rfl
theorem g_tab : Tryz.prog.globalNamed "math/bits.deBruijn64tab" = some 0 := by kernel_rfl
theorem t_tab : (Tryz.prog.globals[0]?).map (·.type) = some 125 := by kernel_rfl
abbrev laidL : List (String × DataW Unit) := [("math/bits.deBruijn64tab", Rows.laid_math_bits_deBruijn64tab)]
theorem door_met (os : Os) (args : Array Value) : laidMetH Tryz.prog laidL ((World.doorLaid Tryz.prog 400 os).forCall (fun _ _ => 0) ⟨#[], args, []⟩).memory :=
  laidMetH_of_parts3 (fuel := 8) (laidMet_of_run' 8 (by kernel_rfl) (by kernel_rfl)) (by kernel_rfl) (by kernel_rfl)
theorem tab_lits : (Rows.laid_math_bits_deBruijn64tab : DataW Unit) = .agg (tz64.map fun (n : Nat) => .lit (.int .u8 (n : Int))) := by
  unfold Rows.laid_math_bits_deBruijn64tab tz64
  simp only [List.map_cons, List.map_nil]
  rfl
theorem gl_of_laid {W : World} (h : laidMetH Tryz.prog laidL W) : Gl W := by
  rw [MakeChecks.laidMetH_plain _ _ _ (by kernel_rfl)] at h
  obtain ⟨ps, ⟨g0, t0, cs0, f0, p0, q0, hg0, ht0, hv0, hd0, _, _⟩, _, _⟩ := h
  obtain rfl := Option.some.inj (g_tab.symm.trans hg0)
  obtain rfl := Option.some.inj (t_tab.symm.trans ht0)
  have ua : Tryz.prog.underlying 125 = some (.array 64 5) := by kernel_rfl
  have ub : Tryz.prog.underlying 5 = some (.int .u8) := by kernel_rfl
  have c1 : Tryz.prog.cellsOf 5 = 1 := by kernel_rfl
  obtain ⟨xs, m1, rfl, hx1, hlen, hn3, hel⟩ := DataW.trod_array ua hd0
  rw [tab_lits] at hx1
  simp only [Prod.mk.injEq, DataW.agg.injEq] at hx1
  intro j hj
  have hj64 : j < 64 := hj
  have h0 := hel j hj64
  obtain ⟨x, hx⟩ : ∃ x, xs[j]? = some x := ⟨_, List.getElem?_eq_getElem (by omega)⟩
  rw [hx] at h0
  obtain ⟨k, e1, e2, _⟩ := DataW.trod_int ub h0
  have e3 : (xs.map (·.1))[j]? = some x.1 := by rw [List.getElem?_map, hx]; rfl
  rw [← hx1.1, List.getElem?_map, List.getElem?_eq_getElem hj, e2] at e3
  have hk : k = ((tz64[j] : Nat) : Int) := by
    simp only [Option.map_some, Option.some.injEq, DataW.lit.injEq, Lit.int.injEq, true_and] at e3
    exact e3.symm
  have := World.var?_cell g_tab hv0 j
  rw [this]
  rw [c1, Nat.mul_one] at e1
  have e4 : cs0.toList[j]? = some (.int .u8 k) := by
    have := congrArg (fun l => l[0]?) e1
    simpa using this
  have hd : tz64.getD j 0 = tz64[j] := by rw [List.getD_eq_getElem?_getD, List.getElem?_eq_getElem hj]; rfl
  rw [← Array.getElem?_toList, e4, hk, hd]
end Go.Proofs.YtjbagikfogejnaaGreatDoor
