import Derived.Test.YtjbagikfogejnaaGreatDoorPUf
import Derived.Test.YtjbagikfogejnaaGreatDoorProg
import Derived.WalkKit
import Derived.Laws.OwnMore
import Derived.Deep.Draws
import Derived.Deep.OwnRows
import Derived.Deep.LoopGhost
import Derived.Deep.QuietTactic
import Derived.BigQuiet
import Derived.Lib.Hide
import Derived.Maps.AppendAt
import Derived.Laws.Rows
import Derived.OneCell
import Derived.Shelf.Spec.BitsCarry
import Derived.Deep.DeepCutAuto
import Derived.Shelf.Small.Bits
import Derived.Shelf.Strconv.Itoa0
import Derived.Shelf.Bits.Mul64
import Derived.Lib.BitFns
import Derived.Deep.CutBlock
import Derived.BigRegion
import Derived.StillTailTactics
import Derived.Deep.AppendLies
import Derived.Orders
import Derived.Lib.SliceRun
import Derived.Deep.MidRow
import Derived.BigCall
import Derived.Laws.AppendOwn
import Derived.Great.BuildSlice
import Derived.Laws.Append
import Derived.Deep.RegionWith
import Derived.WalkMore
import Derived.Laws.EntriesVeiled
import Derived.Laws.CopyOwn
import Derived.Scope
import Derived.Test.YtjbagikfogejnaaGreatDoorRows
import Derived.ProofKit
import Derived.OpenShut
import Derived.Deep.SlicePairs
import Derived.WideKeyArgs
import Derived.Test.YtjbagikfogejnaaGreatDoorCards
import Derived.Test.YtjbagikfogejnaaGreatDoorTie
import Derived.LaidMore
import Derived.Stop.Joined
import Derived.SevenTiedAt
import Derived.WalkSmall
import Derived.Deep.DeepHandedRow
/- Of: Shelf, PowF, Pow4, Abs17, R21c, R21d, L21o, Int5, Root4, Times2, L21q, Bulk. -/
/- The contracts of the kit's shelf, laid at this dump by the kit's own tools, in plain words. -/
namespace Go.Proofs.YtjbagikfogejnaaGreatDoor
open Go.Shelf
theorem Tryz.lays125 : Go.Proofs.Lays.n125 Tryz.prog Tryz.lays125_ren := {
  mixed := by kernel_rfl
  f125 := Tryz.func99.trans (congrArg some (by kernel_rfl))
  f128 := Tryz.func140.trans (congrArg some (by kernel_rfl))
  f129 := Tryz.func141.trans (congrArg some (by kernel_rfl))
  t3 := Tryz.underlying3
  a3 := Tryz.isAgg3
  z3 := Tryz.sizeOf3
  v3 := Tryz.zeroValue3
  t4 := Tryz.underlying4
  a4 := Tryz.isAgg4
  z4 := Tryz.sizeOf4
  v4 := Tryz.zeroValue4
  t5 := Tryz.underlying5
  a5 := Tryz.isAgg5
  z5 := Tryz.sizeOf5
  v5 := Tryz.zeroValue5
  t9 := Tryz.underlying9
  a9 := Tryz.isAgg9
  z9 := Tryz.sizeOf9
  v9 := Tryz.zeroValue9
  t46 := Tryz.underlying118
  a46 := Tryz.isAgg118
  z46 := Tryz.sizeOf118
  v46 := Tryz.zeroValue118
  t51 := Tryz.underlying147
  a51 := Tryz.isAgg147
  z51 := Tryz.sizeOf147
  v51 := Tryz.zeroValue147
  t53 := Tryz.underlying41
  a53 := Tryz.isAgg41
  z53 := Tryz.sizeOf41
  v53 := Tryz.zeroValue41 }
theorem Tryz.bits_Len (x : Int) (w : World) (h0 : 0 ≤ x) (h1 : x ≤ 18446744073709551615) :
    Calls Tryz.prog 99 #[.int .u64 x] w fun e w' => e = .returned (.int .i64 (Lib.bitLen x.toNat)) ∧ w' = w := Any.bits_Len Tryz.lays125 x w h0 h1
end Go.Proofs.YtjbagikfogejnaaGreatDoor
/- Powers and orders modulo a number: what is told, in plain words. -/
namespace Go.Proofs.YtjbagikfogejnaaGreatDoor
theorem down1_le (f : Nat → Bool) (p : Nat) : ∀ k n, down1 f p k n ≤ n
  | 0, n => Nat.le_refl _
  | k + 1, n => by
    simp only [down1]
    split
    · exact Nat.le_trans (down1_le f p k (n / p)) (Nat.div_le_self _ _)
    · exact Nat.le_refl _
theorem downs_le (f : Nat → Bool) : ∀ l n, downs f l n ≤ n
  | [], n => Nat.le_refl _
  | q :: l, n => Nat.le_trans (downs_le f l _) (down1_le f _ _ _)
end Go.Proofs.YtjbagikfogejnaaGreatDoor
/- The package power, by the abstract machine: Order. -/
namespace Go.Proofs.YtjbagikfogejnaaGreatDoor
open Go.RowKit Go.Deep
set_option maxHeartbeats 2000000 in
set_option maxRecDepth 100000 in
theorem ct_Order_bad (A B : Raw) (PS : List Raw) (KS : List Int) (hl : PS.length ≤ 1000) (h : ([A, B] ++ PS).all rightInt = false) : Ct Tryz.prog 22 [aNum A, aNum B, .val (.one (.st (polyP PS))), .val (.one (.st (intsP KS)))] (.tup [aInt (false, []), aI 2]) := by
  refine ct_of_wp [.cell 8 24, .tmp 9] [(0, aNum A), (1, aNum B), (2, .val (.one (.st (polyP PS)))), (3, .val (.one (.st (intsP KS))))] 116 Tryz.func22 rfl rfl rfl rfl rfl rfl rfl rfl ?_
  intro G0 w0
  have hlen : [A, B].length + PS.length ≤ 100000 := by simp; omega
  have kD := ct_limbOf 1 (by decide) (by decide)
  repeat first | refine Wp_seq ?_ | refine Wp_region tm_mixed ?_ | refine AW_move rfl rfl ?_ | refine AW_assign rfl rfl ?_ | refine AW_load rfl ty_num rfl rfl rfl rfl ?_ | refine AW_alloc rfl tz_num ?_ | refine AW_box rfl rfl (row := true) rfl (fun h => by cases h) rfl ?_ | refine AW_quiet rfl (q_lenPoly rfl rfl tu_nums) ?_ | refine AW_quiet rfl (q_buildFull rfl rfl rfl tu_nums ti_num ti_size ti_zero (.cons _ _ _ _ _ rfl (.cons _ _ _ _ _ rfl (.nil _)))) ?_ | refine AW_quiet rfl (q_appPoly (n := 2) (xs := [A, B]) rfl (by decide) rfl rfl hlen) ?_ | refine AW_nil (fun (h : false = true) => by cases h) ?_ | refine Wp_block ?_
  refine Wp_loop (fun i : Nat => ⟨[(8, .val (.one (.ptr 2 0))), (29, .val (.one (.st (polyP ([A, B] ++ PS))))), (30, .val (aI (([A, B] ++ PS).length : Int))), (31, .val (aI (i : Int)))],
    [(2, 24, [.b false, .st (magP [])])], 3⟩) (fun i => i ≤ ([A, B] ++ PS).length ∧ ∀ j x, j < i → ([A, B] ++ PS)[j]? = some x → rightInt x = true) (fun i => ([A, B] ++ PS).length - i) 0 ⟨Nat.zero_le _, fun j _ h => by omega⟩ (le_of ⟨rfl, rfl, rfl, rfl, trivial⟩ ⟨rfl, trivial⟩ rfl) ?_
  rintro i ⟨hi, hall⟩
  repeat first | refine Wp_seq ?_ | refine Wp_region tm_mixed ?_ | refine AW_quiet rfl (q_lt rfl rfl) ?_ | refine AW_nil (fun (h : false = true) => by cases h) ?_
  refine Wp_cond rfl (fun hc => ?_) (fun hc => ?_)
  · have hlt : i < ([A, B] ++ PS).length := by have := of_decide_eq_true hc; omega
    obtain ⟨x, hx⟩ : ∃ x, ([A, B] ++ PS)[i]? = some x := ⟨_, List.getElem?_eq_getElem hlt⟩
    have kR := ct_Right x
    cases hr : rightInt x with
    | true =>
      rw [hr] at kR
      have hA := lt_facts (k := i) (by have : ([A, B] ++ PS).length = [A, B].length + PS.length := List.length_append; omega)
      repeat first | refine Wp_seq ?_ | refine Wp_region tm_mixed ?_ | refine AW_load rfl ty_num rfl rfl rfl rfl ?_ | refine AW_store ty_num rfl rfl rfl rfl rfl rfl rfl ?_ | refine AW_alloc rfl tz_num ?_ | refine AW_not rfl rfl ?_ | refine AW_call rfl rfl (by first | exact kR) ?_ | refine AW_quiet rfl (q_polyAt rfl rfl hx tu_nums ts_num) ?_ | refine AW_quiet rfl (q_loadP rfl ty_num) ?_ | refine AW_nil (fun (h : false = true) => by cases h) ?_ | refine Wp_block ?_ | refine Wp_skip ?_
      refine Wp_condF rfl ?_
      repeat first | refine Wp_region tm_mixed ?_ | refine AW_move rfl rfl ?_ | refine AW_quiet rfl (q_addE rfl rfl hA) ?_ | refine AW_nil (fun (h : false = true) => by cases h) ?_ | refine Wp_skip ?_
      refine ⟨i + 1, ⟨hlt, fun j y hj hy => ?_⟩, le_of ⟨rfl, rfl, rfl, rfl, trivial⟩ ⟨rfl, trivial⟩ rfl, by show ([A, B] ++ PS).length - (i + 1) < ([A, B] ++ PS).length - i; omega⟩
      by_cases hji : j = i
      · subst hji; rw [hx] at hy; cases hy; exact hr
      · exact hall j y (by omega) hy
    | false =>
      rw [hr] at kR
      repeat first | refine Wp_seq ?_ | refine Wp_region tm_mixed ?_ | refine AW_load rfl ty_num rfl rfl rfl rfl ?_ | refine AW_store ty_num rfl rfl rfl rfl rfl rfl rfl ?_ | refine AW_alloc rfl tz_num ?_ | refine AW_not rfl rfl ?_ | refine AW_call rfl rfl (by first | exact kR) ?_ | refine AW_quiet rfl (q_polyAt rfl rfl hx tu_nums ts_num) ?_ | refine AW_quiet rfl (q_loadP rfl ty_num) ?_ | refine AW_nil (fun (h : false = true) => by cases h) ?_ | refine Wp_block ?_ | refine Wp_skip ?_
      refine Wp_condT rfl ?_
      repeat first | refine Wp_seq ?_ | refine Wp_region tm_mixed ?_ | refine AW_assign rfl rfl ?_ | refine AW_store ty_num rfl rfl rfl rfl rfl rfl rfl ?_ | refine AW_build rfl tb_num rfl ?_ | refine AW_nil (fun (h : false = true) => by cases h) ?_ | refine Wp_ret ?_
      exact ⟨.inr rfl, _, .cell _ _ _ _ _ _ _ _ _ _ _ ty_num rfl rfl rfl (.tmp _ _ _ _ rfl .nil), rfl⟩
  · exfalso
    have hge : ¬ i < ([A, B] ++ PS).length := by have := of_decide_eq_false hc; omega
    have : ([A, B] ++ PS).all rightInt = true := by
      rw [List.all_eq_true]
      intro x hx
      obtain ⟨j, hj⟩ := List.getElem?_of_mem hx
      exact hall j x (by have := (List.getElem?_eq_some_iff.1 hj).1; omega) hj
    rw [h] at this
    cases this
set_option maxHeartbeats 2000000 in
set_option maxRecDepth 100000 in
theorem ct_Order_mod (A B : Raw) (PS : List Raw) (KS : List Int) (hl : PS.length ≤ 1000) (hall : ∀ x ∈ [A, B] ++ PS, rightInt x = true) (e : Int) (he : muE B = e) (hn : (e != 0) = true) : Ct Tryz.prog 22 [aNum A, aNum B, .val (.one (.st (polyP PS))), .val (.one (.st (intsP KS)))] (.tup [aInt (false, []), aI e]) := by
  refine ct_of_wp [.cell 8 24, .tmp 9] [(0, aNum A), (1, aNum B), (2, .val (.one (.st (polyP PS)))), (3, .val (.one (.st (intsP KS))))] 116 Tryz.func22 rfl rfl rfl rfl rfl rfl rfl rfl ?_
  intro G0 w0
  have k3 := ct_pmodulus B
  rw [he] at k3
  have hn0 : (e == 0) = false := by simpa [bne] using hn
  have hlen : [A, B].length + (PS).length ≤ 100000 := by simp; omega
  have kD := ct_limbOf 1 (by decide) (by decide)
  repeat first | refine Wp_seq ?_ | refine Wp_region tm_mixed ?_ | refine AW_move rfl rfl ?_ | refine AW_assign rfl rfl ?_ | refine AW_load rfl ty_num rfl rfl rfl rfl ?_ | refine AW_alloc rfl tz_num ?_ | refine AW_box rfl rfl (row := true) rfl (fun h => by cases h) rfl ?_ | refine AW_quiet rfl (q_lenPoly rfl rfl tu_nums) ?_ | refine AW_quiet rfl (q_buildFull rfl rfl rfl tu_nums ti_num ti_size ti_zero (.cons _ _ _ _ _ rfl (.cons _ _ _ _ _ rfl (.nil _)))) ?_ | refine AW_quiet rfl (q_appPoly (n := 2) (xs := [A, B]) rfl (by decide) rfl rfl hlen) ?_ | refine AW_nil (fun (h : false = true) => by cases h) ?_ | refine Wp_block ?_
  refine Wp_loop (fun i : Nat => ⟨[(2, .val (.one (.st (polyP (PS))))), (3, .val (.one (.st (intsP (KS))))), (4, .val (.one (.ptr 0 0))), (5, .val (.one (.ptr 1 0))), (8, .val (.one (.ptr 2 0))), (29, .val (.one (.st (polyP ([A, B] ++ PS))))), (30, .val (aI (([A, B] ++ PS).length : Int))), (31, .val (aI (i : Int)))],
    [(0, 24, [.b (A).1, .st (magP (A).2)]), (1, 24, [.b (B).1, .st (magP (B).2)]), (2, 24, [.b false, .st (magP [])])], 3⟩) (fun i => i ≤ ([A, B] ++ PS).length) (fun i => ([A, B] ++ PS).length - i) 0 (Nat.zero_le _) (le_of ⟨rfl, rfl, rfl, rfl, rfl, rfl, rfl, rfl, trivial⟩ ⟨rfl, rfl, rfl, trivial⟩ rfl) ?_
  intro i hi
  repeat first | refine Wp_seq ?_ | refine Wp_region tm_mixed ?_ | refine AW_quiet rfl (q_lt rfl rfl) ?_ | refine AW_nil (fun (h : false = true) => by cases h) ?_
  refine Wp_cond rfl (fun hc => ?_) (fun hc => ?_)
  · have hlt : i < ([A, B] ++ PS).length := by have := of_decide_eq_true hc; omega
    obtain ⟨x, hx⟩ : ∃ x, ([A, B] ++ PS)[i]? = some x := ⟨_, List.getElem?_eq_getElem hlt⟩
    have kR := ct_Right x
    rw [hall x (List.mem_of_getElem? hx)] at kR
    have hA := lt_facts (k := i) (by have : ([A, B] ++ PS).length = [A, B].length + (PS).length := List.length_append; omega)
    repeat first | refine Wp_seq ?_ | refine Wp_region tm_mixed ?_ | refine AW_load rfl ty_num rfl rfl rfl rfl ?_ | refine AW_store ty_num rfl rfl rfl rfl rfl rfl rfl ?_ | refine AW_alloc rfl tz_num ?_ | refine AW_not rfl rfl ?_ | refine AW_call rfl rfl (by first | exact kR) ?_ | refine AW_quiet rfl (q_polyAt rfl rfl hx tu_nums ts_num) ?_ | refine AW_quiet rfl (q_loadP rfl ty_num) ?_ | refine AW_nil (fun (h : false = true) => by cases h) ?_ | refine Wp_block ?_ | refine Wp_skip ?_
    refine Wp_condF rfl ?_
    repeat first | refine Wp_region tm_mixed ?_ | refine AW_move rfl rfl ?_ | refine AW_quiet rfl (q_addE rfl rfl hA) ?_ | refine AW_nil (fun (h : false = true) => by cases h) ?_ | refine Wp_skip ?_
    exact ⟨i + 1, hlt, le_of ⟨rfl, rfl, rfl, rfl, rfl, rfl, rfl, rfl, trivial⟩ ⟨rfl, rfl, rfl, trivial⟩ rfl, by show ([A, B] ++ PS).length - (i + 1) < ([A, B] ++ PS).length - i; omega⟩
  repeat first | refine Wp_seq ?_ | refine Wp_region tm_mixed ?_ | refine AW_move rfl rfl ?_ | refine AW_assign rfl rfl ?_ | refine AW_load rfl ty_num rfl rfl rfl rfl ?_ | refine AW_call rfl rfl (by first | exact k3) ?_ | refine AW_quiet rfl (q_eqE rfl rfl hn0) ?_ | refine AW_nil (fun (h : false = true) => by cases h) ?_ | refine Wp_exit ?_
  refine Wp_condF rfl ?_
  repeat first | refine Wp_seq ?_ | refine Wp_region tm_mixed ?_ | refine AW_move rfl rfl ?_ | refine AW_quiet rfl (q_neE rfl rfl hn) ?_ | refine AW_nil (fun (h : false = true) => by cases h) ?_ | refine Wp_skip ?_
  refine Wp_condT rfl ?_
  repeat first | refine Wp_seq ?_ | refine Wp_region tm_mixed ?_ | refine AW_move rfl rfl ?_ | refine AW_assign rfl rfl ?_ | refine AW_store ty_num rfl rfl rfl rfl rfl rfl rfl ?_ | refine AW_build rfl tb_num rfl ?_ | refine AW_nil (fun (h : false = true) => by cases h) ?_ | refine Wp_ret ?_
  exact ⟨.inr rfl, _, .cell _ _ _ _ _ _ _ _ _ _ _ ty_num rfl rfl rfl (.tmp _ _ _ _ rfl .nil), rfl⟩
set_option maxHeartbeats 2000000 in
set_option maxRecDepth 100000 in
theorem ct_Order_lists (A B : Raw) (PS : List Raw) (KS : List Int) (hl : PS.length ≤ 1000) (hall : ∀ x ∈ [A, B] ++ PS, rightInt x = true) (he : muE B = 0) (e : Int) (hL : listE PS KS = e) (hn : (e != 0) = true) : Ct Tryz.prog 22 [aNum A, aNum B, .val (.one (.st (polyP PS))), .val (.one (.st (intsP KS)))] (.tup [aInt (false, []), aI e]) := by
  refine ct_of_wp [.cell 8 24, .tmp 9] [(0, aNum A), (1, aNum B), (2, .val (.one (.st (polyP PS)))), (3, .val (.one (.st (intsP KS))))] 116 Tryz.func22 rfl rfl rfl rfl rfl rfl rfl rfl ?_
  intro G0 w0
  have k3 := ct_pmodulus B
  rw [he] at k3
  have k4 := ct_lists PS KS hl
  rw [hL] at k4
  have hlen : [A, B].length + (PS).length ≤ 100000 := by simp; omega
  have kD := ct_limbOf 1 (by decide) (by decide)
  repeat first | refine Wp_seq ?_ | refine Wp_region tm_mixed ?_ | refine AW_move rfl rfl ?_ | refine AW_assign rfl rfl ?_ | refine AW_load rfl ty_num rfl rfl rfl rfl ?_ | refine AW_alloc rfl tz_num ?_ | refine AW_box rfl rfl (row := true) rfl (fun h => by cases h) rfl ?_ | refine AW_quiet rfl (q_lenPoly rfl rfl tu_nums) ?_ | refine AW_quiet rfl (q_buildFull rfl rfl rfl tu_nums ti_num ti_size ti_zero (.cons _ _ _ _ _ rfl (.cons _ _ _ _ _ rfl (.nil _)))) ?_ | refine AW_quiet rfl (q_appPoly (n := 2) (xs := [A, B]) rfl (by decide) rfl rfl hlen) ?_ | refine AW_nil (fun (h : false = true) => by cases h) ?_ | refine Wp_block ?_
  refine Wp_loop (fun i : Nat => ⟨[(2, .val (.one (.st (polyP (PS))))), (3, .val (.one (.st (intsP (KS))))), (4, .val (.one (.ptr 0 0))), (5, .val (.one (.ptr 1 0))), (8, .val (.one (.ptr 2 0))), (29, .val (.one (.st (polyP ([A, B] ++ PS))))), (30, .val (aI (([A, B] ++ PS).length : Int))), (31, .val (aI (i : Int)))],
    [(0, 24, [.b (A).1, .st (magP (A).2)]), (1, 24, [.b (B).1, .st (magP (B).2)]), (2, 24, [.b false, .st (magP [])])], 3⟩) (fun i => i ≤ ([A, B] ++ PS).length) (fun i => ([A, B] ++ PS).length - i) 0 (Nat.zero_le _) (le_of ⟨rfl, rfl, rfl, rfl, rfl, rfl, rfl, rfl, trivial⟩ ⟨rfl, rfl, rfl, trivial⟩ rfl) ?_
  intro i hi
  repeat first | refine Wp_seq ?_ | refine Wp_region tm_mixed ?_ | refine AW_quiet rfl (q_lt rfl rfl) ?_ | refine AW_nil (fun (h : false = true) => by cases h) ?_
  refine Wp_cond rfl (fun hc => ?_) (fun hc => ?_)
  · have hlt : i < ([A, B] ++ PS).length := by have := of_decide_eq_true hc; omega
    obtain ⟨x, hx⟩ : ∃ x, ([A, B] ++ PS)[i]? = some x := ⟨_, List.getElem?_eq_getElem hlt⟩
    have kR := ct_Right x
    rw [hall x (List.mem_of_getElem? hx)] at kR
    have hA := lt_facts (k := i) (by have : ([A, B] ++ PS).length = [A, B].length + (PS).length := List.length_append; omega)
    repeat first | refine Wp_seq ?_ | refine Wp_region tm_mixed ?_ | refine AW_load rfl ty_num rfl rfl rfl rfl ?_ | refine AW_store ty_num rfl rfl rfl rfl rfl rfl rfl ?_ | refine AW_alloc rfl tz_num ?_ | refine AW_not rfl rfl ?_ | refine AW_call rfl rfl (by first | exact kR) ?_ | refine AW_quiet rfl (q_polyAt rfl rfl hx tu_nums ts_num) ?_ | refine AW_quiet rfl (q_loadP rfl ty_num) ?_ | refine AW_nil (fun (h : false = true) => by cases h) ?_ | refine Wp_block ?_ | refine Wp_skip ?_
    refine Wp_condF rfl ?_
    repeat first | refine Wp_region tm_mixed ?_ | refine AW_move rfl rfl ?_ | refine AW_quiet rfl (q_addE rfl rfl hA) ?_ | refine AW_nil (fun (h : false = true) => by cases h) ?_ | refine Wp_skip ?_
    exact ⟨i + 1, hlt, le_of ⟨rfl, rfl, rfl, rfl, rfl, rfl, rfl, rfl, trivial⟩ ⟨rfl, rfl, rfl, trivial⟩ rfl, by show ([A, B] ++ PS).length - (i + 1) < ([A, B] ++ PS).length - i; omega⟩
  repeat first | refine Wp_seq ?_ | refine Wp_region tm_mixed ?_ | refine AW_move rfl rfl ?_ | refine AW_assign rfl rfl ?_ | refine AW_load rfl ty_num rfl rfl rfl rfl ?_ | refine AW_call rfl rfl (by first | exact k3) ?_ | refine AW_eq rfl rfl rfl ?_ | refine AW_nil (fun (h : false = true) => by cases h) ?_ | refine Wp_exit ?_
  refine Wp_condT rfl ?_
  repeat first | refine Wp_seq ?_ | refine Wp_region tm_mixed ?_ | refine AW_move rfl rfl ?_ | refine AW_assign rfl rfl ?_ | refine AW_call rfl rfl (by first | exact k4) ?_ | refine AW_quiet rfl (q_neE rfl rfl hn) ?_ | refine AW_nil (fun (h : false = true) => by cases h) ?_
  refine Wp_condT rfl ?_
  repeat first | refine Wp_seq ?_ | refine Wp_region tm_mixed ?_ | refine AW_move rfl rfl ?_ | refine AW_assign rfl rfl ?_ | refine AW_store ty_num rfl rfl rfl rfl rfl rfl rfl ?_ | refine AW_build rfl tb_num rfl ?_ | refine AW_nil (fun (h : false = true) => by cases h) ?_ | refine Wp_ret ?_
  exact ⟨.inr rfl, _, .cell _ _ _ _ _ _ _ _ _ _ _ ty_num rfl rfl rfl (.tmp _ _ _ _ rfl .nil), rfl⟩
end Go.Proofs.YtjbagikfogejnaaGreatDoor
/- An abstract machine: fields of a record that is only read. -/
namespace Go.Proofs.YtjbagikfogejnaaGreatDoor
open Go.RowKit Go.Deep
section
variable {P : Program} {d : Option Nat} {ty : TypeId} {pos : String} {aft : Array Edge} {ev : Operand → Option AR}
theorem q_recMag {x : Operand} {r : Raw} {st : TypeId} {fields : Array Field} {fd : Field} (hu : P.underlying st = some (.struct fields)) (hf : fields[1]? = some fd) (ho : fd.offset = 1) (hs : (P.info? fd.type).map (·.size) = some 1) (hx : ev x = some (.val (.one (.st (recP r))))) :
    Quiet P ⟨d, .fieldAddr st x 1, ty, pos, aft, none⟩ ev (.val (.one (.st (slotP (magP r.2))))) := by
  refine q_of hx (by simp [Op.operands]) fun G β w U ρ _ hk => ?_
  obtain ⟨ad, Am, l, c, he, hG, hb, h1, h2, h3, h4, h5⟩ := hk
  refine ⟨.pointer (some ⟨ad.block, ad.off + 1, none⟩), ?_, ⟨⟨ad.block, ad.off + 1, none⟩, _, rfl, hG, hb, h2, ⟨Am, l, c, rfl, h3, h4, h5⟩⟩, trivial⟩
  cases hq : P.info? fd.type with
  | none => simp [hq] at hs
  | some i =>
    have hsz : i.size = 1 := by simpa [hq] using hs
    have hadd : ad.add 1 = ⟨ad.block, ad.off + 1, none⟩ := by unfold Addr.add; rw [if_neg (by omega)]
    simp [execOp, he, Instr.fieldAt, Sem.run_bind, run_underlying hu, hf, Instr.sureAddr, fieldPlace, sizeOf, typeInfo, hq, hsz, ho, hadd]
theorem q_recNeg {x : Operand} {r : Raw} {st : TypeId} {fields : Array Field} {fd : Field} (hu : P.underlying st = some (.struct fields)) (hf : fields[0]? = some fd) (ho : fd.offset = 0) (hs : (P.info? fd.type).map (·.size) = some 1) (hx : ev x = some (.val (.one (.st (recP r))))) :
    Quiet P ⟨d, .fieldAddr st x 0, ty, pos, aft, none⟩ ev (.val (.one (.st (slotP (boolP r.1))))) := by
  refine q_of hx (by simp [Op.operands]) fun G β w U ρ _ hk => ?_
  obtain ⟨ad, Am, l, c, he, hG, hb, h1, h2, h3, h4, h5⟩ := hk
  refine ⟨.pointer (some ad), ?_, ⟨ad, _, rfl, hG, hb, h1, rfl⟩, trivial⟩
  cases hq : P.info? fd.type with
  | none => simp [hq] at hs
  | some i =>
    have hsz : i.size = 1 := by simpa [hq] using hs
    have hadd : ad.add 0 = ad := by unfold Addr.add; rw [if_pos rfl]
    simp [execOp, he, Instr.fieldAt, Sem.run_bind, run_underlying hu, hf, Instr.sureAddr, fieldPlace, sizeOf, typeInfo, hq, hsz, ho, hadd]
theorem q_slot {x : Operand} {p : Pred} {lt : TypeId} (hty : TyI P lt 1 false) (hx : ev x = some (.val (.one (.st (slotP p))))) : Quiet P ⟨d, .load lt x, ty, pos, aft, none⟩ ev (.val (.one (.st p))) := by
  refine q_of hx (by simp [Op.operands]) fun G β w U ρ _ hk => ?_
  obtain ⟨ad, u, he, hG, hb, h1, h2⟩ := hk
  have hl := hty.loadA w ad [u] (fun j v hv => by
    rcases j with _ | j
    · simp at hv; subst hv
      have hz : ad.add 0 = ad := by unfold Addr.add; rw [if_pos rfl]
      rw [hz]; exact h1
    · simp at hv) rfl
  refine ⟨u, ?_, h2, trivial⟩
  unfold execOp
  simp only [he, Instr.loadAt, Instr.sureAddr, Sem.run_bind, Sem.run_pure, Result.andThen_ok, hl]
  rfl
theorem q_slotB {x : Operand} {b : Bool} {lt : TypeId} (hty : TyI P lt 1 false) (hx : ev x = some (.val (.one (.st (slotP (boolP b)))))) : Quiet P ⟨d, .load lt x, ty, pos, aft, none⟩ ev (.val (aB b)) := by
  refine q_of hx (by simp [Op.operands]) fun G β w U ρ _ hk => ?_
  obtain ⟨ad, u, he, hG, hb, h1, h2⟩ := hk
  have h2 : u = .bool b := h2
  have hl := hty.loadA w ad [u] (fun j v hv => by
    rcases j with _ | j
    · simp at hv; subst hv
      have hz : ad.add 0 = ad := by unfold Addr.add; rw [if_pos rfl]
      rw [hz]; exact h1
    · simp at hv) rfl
  refine ⟨u, ?_, h2, trivial⟩
  unfold execOp
  simp only [he, Instr.loadAt, Instr.sureAddr, Sem.run_bind, Sem.run_pure, Result.andThen_ok, hl]
  rfl
end
theorem tz_mag1 : (Tryz.prog.info? 22).map (·.size) = some 1 := by kernel_rfl
theorem tz_bool1 : (Tryz.prog.info? 4).map (·.size) = some 1 := by kernel_rfl
end Go.Proofs.YtjbagikfogejnaaGreatDoor
/- The document's answer for powers (rosetteref21), by the abstract machine: lists. -/
namespace Go.Proofs.YtjbagikfogejnaaGreatDoor
open Go.RowKit Go.Deep
theorem right_nat {xs : List Nat} (hs : Small xs) (hr : rightInt (false, xs) = true) : ∃ n : Nat, xs = limbs n ∧ lc n ≤ 4096 := by
  obtain ⟨z, h1, h2, h3⟩ := right_int_of hs hr
  exact ⟨z.natAbs, congrArg Prod.snd h1, by omega⟩
theorem nbits_two {n : Nat} : ((nbits n : Nat) : Int) < 2 ↔ n < 2 := by
  have h := @nbits_le n 1
  rw [show (2 : Nat) ^ 1 = 2 from rfl] at h
  omega
theorem badL_small {n : Nat} {k : Int} (h : n < 2) : badL (false, limbs n) k = true := by
  unfold badL
  rcases (by omega : n = 0 ∨ n = 1) with rfl | rfl
  · rw [limbs_zero]; rfl
  · rw [← nat_raw, show ((1 : Nat) : Int) = 1 from rfl, raw_one]; simp
theorem badL_great {n : Nat} {k : Int} (h : 2 ≤ n) (h0 : 0 ≤ k) (h6 : k ≤ 64) : badL (false, limbs n) k = false := by
  unfold badL
  have a1 : (((limbs n).length : Int) == 0) = false := beq_eq_false_iff_ne.2 fun e => by
    have : (limbs n).length = 0 := by omega
    rw [List.length_eq_zero_iff, limbs_eq_nil] at this
    omega
  have a2 : decide (((false, limbs n) : Raw) = (false, [1])) = false := decide_eq_false fun e => by
    rw [← nat_raw, ← raw_one] at e
    have := rawOf_inj e
    omega
  show (false || (((limbs n).length : Int) == 0) || decide (((false, limbs n) : Raw) = (false, [1])) || decide (k < 0) || decide (64 < k)) = false
  rw [a1, a2, decide_eq_false (by omega), decide_eq_false (by omega)]
  rfl
set_option maxHeartbeats 2000000 in
set_option maxRecDepth 100000 in
theorem ct_rlists (ps : List Raw) (ks : List Int) (hl : ps.length ≤ 1000) (hall : ∀ x ∈ ps, rightInt x = true) (hsm : ∀ x ∈ ps, Small x.2) : Ct Tryz.prog 76 [.val (.one (.st (polyP ps))), .val (.one (.st (intsP ks)))] (.val (aI (listE ps ks))) := by
  refine ct_of_wp [.tmp 4] [(0, .val (.one (.st (polyP ps)))), (1, .val (.one (.st (intsP ks))))] 45 Tryz.func76 rfl rfl rfl rfl rfl rfl rfl rfl ?_
  intro G0 w0
  have kO := ct_r21one
  unfold listE
  by_cases hs : ps.length = ks.length
  · rw [if_pos hs]
    have hE : ((ps.length : Int) != (ks.length : Int)) = false := by rw [hs]; simp
    repeat first | refine Wp_seq ?_ | refine Wp_region tm_mixed ?_ | refine AW_move rfl rfl ?_ | refine AW_assign rfl rfl ?_ | refine AW_quiet rfl (q_lenPoly rfl rfl tu_nums) ?_ | refine AW_quiet rfl (q_lenInts rfl rfl tu_ints) ?_ | refine AW_quiet rfl (q_neE rfl rfl hE) ?_ | refine AW_nil (fun (h : false = true) => by cases h) ?_
    refine Wp_condF rfl ?_
    repeat first | refine Wp_seq ?_ | refine Wp_region tm_mixed ?_ | refine AW_assign rfl rfl ?_ | refine AW_nil (fun (h : false = true) => by cases h) ?_ | refine Wp_block ?_ | refine Wp_skip ?_
    refine Wp_loop (fun i : Nat => ⟨[(0, .val (.one (.st (polyP ps)))), (1, .val (.one (.st (intsP ks)))), (5, .val (aI (i : Int)))], [], 0⟩) (fun i => i ≤ ps.length ∧ ∀ j x, j < i → (ps.zip ks)[j]? = some x → badL x.1 x.2 = false) (fun i => ps.length - i) 0 ⟨Nat.zero_le _, fun j _ h => by omega⟩ (le_of ⟨rfl, rfl, rfl, trivial⟩ trivial rfl) ?_
    rintro i ⟨hi, hbad⟩
    repeat first | refine Wp_seq ?_ | refine Wp_region tm_mixed ?_ | refine AW_move rfl rfl ?_ | refine AW_quiet rfl (q_lenPoly rfl rfl tu_nums) ?_ | refine AW_quiet rfl (q_lt rfl rfl) ?_ | refine AW_nil (fun (h : false = true) => by cases h) ?_
    refine Wp_cond rfl (fun hc => ?_) (fun hc => ?_)
    · have hlt : i < ps.length := by have := of_decide_eq_true hc; omega
      obtain ⟨⟨sx, xs⟩, hp⟩ : ∃ x, ps[i]? = some x := ⟨_, List.getElem?_eq_getElem hlt⟩
      obtain ⟨k, hk⟩ : ∃ x, ks[i]? = some x := ⟨_, List.getElem?_eq_getElem (by omega)⟩
      have hr := hall _ (List.mem_of_getElem? hp)
      have hm := hsm _ (List.mem_of_getElem? hp)
      cases sx with
      | true =>
        repeat first | refine Wp_seq ?_ | refine Wp_region tm_mixed ?_ | refine AW_move rfl rfl ?_ | refine AW_quiet rfl (q_polyAt rfl rfl hp tu_nums ts_num) ?_ | refine AW_quiet rfl (q_recNeg Tryz.underlying24 rfl rfl tz_bool1 rfl) ?_ | refine AW_quiet rfl (q_slotB ty_bool rfl) ?_ | refine AW_pickT rfl rfl rfl ?_ | refine AW_skip rfl rfl rfl rfl ?_ | refine AW_nil (fun (h : false = true) => by cases h) ?_ | refine Wp_block ?_ | refine Wp_skip ?_
        refine Wp_condT rfl ?_
        repeat first | refine Wp_seq ?_ | refine Wp_region tm_mixed ?_ | refine AW_assign rfl rfl ?_ | refine AW_nil (fun (h : false = true) => by cases h) ?_ | refine Wp_ret ?_
        exact ⟨.inr rfl, _, .tmp _ _ _ _ rfl .nil, by
          have hb : (ps.zip ks).any (fun q => badL q.1 q.2) = true := any_at (List.getElem?_zip_eq_some (z := (_, k)) |>.2 ⟨hp, hk⟩) (by rfl)
          rw [hb]; rfl⟩
      | false =>
        obtain ⟨n, rfl, ln⟩ := right_nat hm hr
        have kO := ct_NatBits n (by omega)
        by_cases h1 : n < 2
        · have h1' : decide (((nbits n : Nat) : Int) < 2) = true := decide_eq_true (nbits_two.2 h1)
          repeat first | refine Wp_seq ?_ | refine Wp_region tm_mixed ?_ | refine AW_move rfl rfl ?_ | refine AW_quietg rfl rfl rfl rfl (q_ltE rfl rfl h1') ?_ | refine AW_quiet rfl (q_polyAt rfl rfl hp tu_nums ts_num) ?_ | refine AW_quiet rfl (q_recNeg Tryz.underlying24 rfl rfl tz_bool1 rfl) ?_ | refine AW_quiet rfl (q_slotB ty_bool rfl) ?_ | refine AW_quietg rfl rfl rfl rfl (q_polyAt rfl rfl hp tu_nums ts_num) ?_ | refine AW_quietg rfl rfl rfl rfl (q_recMag Tryz.underlying24 rfl rfl tz_mag1 rfl) ?_ | refine AW_quietg rfl rfl rfl rfl (q_slot ty_mag rfl) ?_ | refine AW_pickT rfl rfl rfl ?_ | refine AW_pickF rfl rfl rfl ?_ | refine AW_skip rfl rfl rfl rfl ?_ | refine AW_moveg rfl rfl rfl rfl rfl ?_ | refine AW_callg rfl rfl rfl rfl rfl (by first | exact kO) ?_ | refine AW_nil (fun (h : false = true) => by cases h) ?_ | refine Wp_block ?_ | refine Wp_skip ?_
          refine Wp_condT rfl ?_
          repeat first | refine Wp_seq ?_ | refine Wp_region tm_mixed ?_ | refine AW_assign rfl rfl ?_ | refine AW_nil (fun (h : false = true) => by cases h) ?_ | refine Wp_ret ?_
          exact ⟨.inr rfl, _, .tmp _ _ _ _ rfl .nil, by
            have hb : (ps.zip ks).any (fun q => badL q.1 q.2) = true := any_at (List.getElem?_zip_eq_some (z := (_, k)) |>.2 ⟨hp, hk⟩) (by exact badL_small h1)
            rw [hb]; rfl⟩
        · have h1' : decide (((nbits n : Nat) : Int) < 2) = false := decide_eq_false fun e => h1 (nbits_two.1 e)
          by_cases h2 : k < 0
          · have h2' : decide (k < 0) = true := decide_eq_true h2
            repeat first | refine Wp_seq ?_ | refine Wp_region tm_mixed ?_ | refine AW_move rfl rfl ?_ | refine AW_quietg rfl rfl rfl rfl (q_ltE rfl rfl h1') ?_ | refine AW_quietg rfl rfl rfl rfl (q_ltE rfl rfl h2') ?_ | refine AW_quiet rfl (q_polyAt rfl rfl hp tu_nums ts_num) ?_ | refine AW_quiet rfl (q_recNeg Tryz.underlying24 rfl rfl tz_bool1 rfl) ?_ | refine AW_quiet rfl (q_slotB ty_bool rfl) ?_ | refine AW_quietg rfl rfl rfl rfl (q_polyAt rfl rfl hp tu_nums ts_num) ?_ | refine AW_quietg rfl rfl rfl rfl (q_recMag Tryz.underlying24 rfl rfl tz_mag1 rfl) ?_ | refine AW_quietg rfl rfl rfl rfl (q_slot ty_mag rfl) ?_ | refine AW_quietg rfl rfl rfl rfl (q_intAt rfl rfl hk tu_ints ts_int) ?_ | refine AW_quietg rfl rfl rfl rfl (q_intLoad rfl ty_int) ?_ | refine AW_pickT rfl rfl rfl ?_ | refine AW_pickF rfl rfl rfl ?_ | refine AW_skip rfl rfl rfl rfl ?_ | refine AW_moveg rfl rfl rfl rfl rfl ?_ | refine AW_callg rfl rfl rfl rfl rfl (by first | exact kO) ?_ | refine AW_nil (fun (h : false = true) => by cases h) ?_ | refine Wp_block ?_ | refine Wp_skip ?_
            refine Wp_condT rfl ?_
            repeat first | refine Wp_seq ?_ | refine Wp_region tm_mixed ?_ | refine AW_assign rfl rfl ?_ | refine AW_nil (fun (h : false = true) => by cases h) ?_ | refine Wp_ret ?_
            exact ⟨.inr rfl, _, .tmp _ _ _ _ rfl .nil, by
              have hb : (ps.zip ks).any (fun q => badL q.1 q.2) = true := any_at (List.getElem?_zip_eq_some (z := (_, k)) |>.2 ⟨hp, hk⟩) (by unfold badL; rw [h2']; simp)
              rw [hb]; rfl⟩
          · have h2' : decide (k < 0) = false := decide_eq_false h2
            by_cases h3 : 64 < k
            · have h3' : decide (64 < k) = true := decide_eq_true h3
              repeat first | refine Wp_seq ?_ | refine Wp_region tm_mixed ?_ | refine AW_move rfl rfl ?_ | refine AW_quietg rfl rfl rfl rfl (q_ltE rfl rfl h1') ?_ | refine AW_quietg rfl rfl rfl rfl (q_ltE rfl rfl h2') ?_ | refine AW_quietg rfl rfl rfl rfl (q_gtE rfl rfl h3') ?_ | refine AW_quiet rfl (q_polyAt rfl rfl hp tu_nums ts_num) ?_ | refine AW_quiet rfl (q_recNeg Tryz.underlying24 rfl rfl tz_bool1 rfl) ?_ | refine AW_quiet rfl (q_slotB ty_bool rfl) ?_ | refine AW_quietg rfl rfl rfl rfl (q_polyAt rfl rfl hp tu_nums ts_num) ?_ | refine AW_quietg rfl rfl rfl rfl (q_recMag Tryz.underlying24 rfl rfl tz_mag1 rfl) ?_ | refine AW_quietg rfl rfl rfl rfl (q_slot ty_mag rfl) ?_ | refine AW_quietg rfl rfl rfl rfl (q_intAt rfl rfl hk tu_ints ts_int) ?_ | refine AW_quietg rfl rfl rfl rfl (q_intLoad rfl ty_int) ?_ | refine AW_pickF rfl rfl rfl ?_ | refine AW_moveg rfl rfl rfl rfl rfl ?_ | refine AW_callg rfl rfl rfl rfl rfl (by first | exact kO) ?_ | refine AW_nil (fun (h : false = true) => by cases h) ?_ | refine Wp_block ?_ | refine Wp_skip ?_
              refine Wp_condT rfl ?_
              repeat first | refine Wp_seq ?_ | refine Wp_region tm_mixed ?_ | refine AW_assign rfl rfl ?_ | refine AW_nil (fun (h : false = true) => by cases h) ?_ | refine Wp_ret ?_
              exact ⟨.inr rfl, _, .tmp _ _ _ _ rfl .nil, by
                have hb : (ps.zip ks).any (fun q => badL q.1 q.2) = true := any_at (List.getElem?_zip_eq_some (z := (_, k)) |>.2 ⟨hp, hk⟩) (by unfold badL; rw [h3']; simp)
                rw [hb]; rfl⟩
            · have h3' : decide (64 < k) = false := decide_eq_false h3
              have hA := lt_facts (k := i) (by omega)
              repeat first | refine Wp_seq ?_ | refine Wp_region tm_mixed ?_ | refine AW_move rfl rfl ?_ | refine AW_quietg rfl rfl rfl rfl (q_ltE rfl rfl h1') ?_ | refine AW_quietg rfl rfl rfl rfl (q_ltE rfl rfl h2') ?_ | refine AW_quietg rfl rfl rfl rfl (q_gtE rfl rfl h3') ?_ | refine AW_quiet rfl (q_polyAt rfl rfl hp tu_nums ts_num) ?_ | refine AW_quiet rfl (q_recNeg Tryz.underlying24 rfl rfl tz_bool1 rfl) ?_ | refine AW_quiet rfl (q_slotB ty_bool rfl) ?_ | refine AW_quietg rfl rfl rfl rfl (q_polyAt rfl rfl hp tu_nums ts_num) ?_ | refine AW_quietg rfl rfl rfl rfl (q_recMag Tryz.underlying24 rfl rfl tz_mag1 rfl) ?_ | refine AW_quietg rfl rfl rfl rfl (q_slot ty_mag rfl) ?_ | refine AW_quietg rfl rfl rfl rfl (q_intAt rfl rfl hk tu_ints ts_int) ?_ | refine AW_quietg rfl rfl rfl rfl (q_intLoad rfl ty_int) ?_ | refine AW_pickF rfl rfl rfl ?_ | refine AW_moveg rfl rfl rfl rfl rfl ?_ | refine AW_callg rfl rfl rfl rfl rfl (by first | exact kO) ?_ | refine AW_nil (fun (h : false = true) => by cases h) ?_ | refine Wp_block ?_ | refine Wp_skip ?_
              refine Wp_condF rfl ?_
              repeat first | refine Wp_region tm_mixed ?_ | refine AW_move rfl rfl ?_ | refine AW_assign rfl rfl ?_ | refine AW_quiet rfl (q_addE rfl rfl hA) ?_ | refine AW_nil (fun (h : false = true) => by cases h) ?_ | refine Wp_skip ?_
              refine ⟨i + 1, ⟨hlt, fun j x hj hx => ?_⟩, le_of ⟨rfl, rfl, rfl, trivial⟩ trivial rfl, by show ps.length - (i + 1) < ps.length - i; omega⟩
              by_cases hji : j = i
              · subst hji
                rw [List.getElem?_zip_eq_some, hp, hk] at hx
                obtain ⟨e1, e2⟩ := hx
                cases x
                cases e1
                cases e2
                exact badL_great (by omega) (by omega) (by omega)
              · exact hbad j x (by omega) hx
    · have hge : i = ps.length := by have := of_decide_eq_false hc; omega
      subst hge
      have hb : (ps.zip ks).any (fun q => badL q.1 q.2) = false := any_none fun j x hj hx => hbad j x (by rw [List.length_zip] at hj; omega) hx
      rw [hb]
      repeat first | refine Wp_seq ?_ | refine Wp_region tm_mixed ?_ | refine AW_assign rfl rfl ?_ | refine AW_nil (fun (h : false = true) => by cases h) ?_ | refine Wp_exit ?_ | refine Wp_ret ?_
      exact ⟨.inr rfl, _, .tmp _ _ _ _ rfl .nil, rfl⟩
  · rw [if_neg hs]
    have hE : ((ps.length : Int) != (ks.length : Int)) = true := by simp; omega
    repeat first | refine Wp_seq ?_ | refine Wp_region tm_mixed ?_ | refine AW_move rfl rfl ?_ | refine AW_assign rfl rfl ?_ | refine AW_quiet rfl (q_lenPoly rfl rfl tu_nums) ?_ | refine AW_quiet rfl (q_lenInts rfl rfl tu_ints) ?_ | refine AW_quiet rfl (q_neE rfl rfl hE) ?_ | refine AW_nil (fun (h : false = true) => by cases h) ?_
    refine Wp_condT rfl ?_
    repeat first | refine Wp_seq ?_ | refine Wp_region tm_mixed ?_ | refine AW_assign rfl rfl ?_ | refine AW_nil (fun (h : false = true) => by cases h) ?_ | refine Wp_ret ?_
    exact ⟨.inr rfl, _, .tmp _ _ _ _ rfl .nil, rfl⟩
end Go.Proofs.YtjbagikfogejnaaGreatDoor
/- The document's answer for powers (rosetteref21), by the abstract machine: Order. -/
namespace Go.Proofs.YtjbagikfogejnaaGreatDoor
open Go.RowKit Go.Deep
theorem isZ_abs {x m : Int} (hx : 0 ≤ x) (hm : 0 < m) (n : Nat) : decide (x.natAbs ^ n % m.natAbs = 1 % m.natAbs) = isZ x m n := by
  have h := isZ_nat x.natAbs m.natAbs n
  rw [show ((x.natAbs : Nat) : Int) = x by omega, show ((m.natAbs : Nat) : Int) = m by omega] at h
  rw [h]
  rfl
theorem cmpN_not0 (a b : Nat) : (cmpN a b != 0) = !decide (a = b) := by rw [← cmpN_is0]; rfl
theorem nbits_lc {n k : Nat} (h : lc n ≤ k) : nbits n ≤ 64 * k := nbits_le.2 (by rw [← W64_pow]; exact lc_le.1 h)
set_option maxHeartbeats 2000000 in
set_option maxRecDepth 100000 in
theorem ct_rOrder_bad (A B : Raw) (PS : List Raw) (KS : List Int) (hl : PS.length ≤ 1000) (h : ([A, B] ++ PS).all rightInt = false) : Ct Tryz.prog 23 [aNum A, aNum B, .val (.one (.st (polyP PS))), .val (.one (.st (intsP KS)))] (.tup [aInt (false, []), aI 2]) := by
  refine ct_of_wp [.cell 8 24, .tmp 9] [(0, aNum A), (1, aNum B), (2, .val (.one (.st (polyP PS)))), (3, .val (.one (.st (intsP KS))))] 142 Tryz.func23 rfl rfl rfl rfl rfl rfl rfl rfl ?_
  intro G0 w0
  have kD := ct_r21one
  repeat first | refine Wp_seq ?_ | refine Wp_region tm_mixed ?_ | refine AW_assign rfl rfl ?_ | refine AW_alloc rfl tz_num ?_ | refine AW_box rfl rfl (row := true) rfl (fun h => by cases h) rfl ?_ | refine AW_nil (fun (h : false = true) => by cases h) ?_ | refine Wp_block ?_
  refine Wp_loop (fun i : Nat => ⟨[(2, .val (.one (.st (polyP PS)))), (4, .val (.one (.ptr 0 0))), (5, .val (.one (.ptr 1 0))), (8, .val (.one (.ptr 2 0))), (10, .val (aI (i : Int)))],
    [(0, 24, [.b A.1, .st (magP A.2)]), (1, 24, [.b B.1, .st (magP B.2)]), (2, 24, [.b false, .st (magP [])])], 3⟩) (fun i => i ≤ PS.length ∧ ∀ j x, j < i → PS[j]? = some x → rightInt x = true) (fun i => PS.length - i) 0 ⟨Nat.zero_le _, fun j _ h => by omega⟩ (le_of ⟨rfl, rfl, rfl, rfl, rfl, trivial⟩ ⟨rfl, rfl, rfl, trivial⟩ rfl) ?_
  rintro i ⟨hi, hall⟩
  repeat first | refine Wp_seq ?_ | refine Wp_region tm_mixed ?_ | refine AW_move rfl rfl ?_ | refine AW_quiet rfl (q_lenPoly rfl rfl tu_nums) ?_ | refine AW_quiet rfl (q_lt rfl rfl) ?_ | refine AW_nil (fun (h : false = true) => by cases h) ?_
  refine Wp_cond rfl (fun hc => ?_) (fun hc => ?_)
  · have hlt : i < PS.length := by have := of_decide_eq_true hc; omega
    obtain ⟨x, hx⟩ : ∃ x, PS[i]? = some x := ⟨_, List.getElem?_eq_getElem hlt⟩
    have kR := ct_RightInt x
    cases hr : rightInt x with
    | true =>
      rw [hr] at kR
      have hA := lt_facts (k := i) (by omega)
      repeat first | refine Wp_seq ?_ | refine Wp_region tm_mixed ?_ | refine AW_move rfl rfl ?_ | refine AW_not rfl rfl ?_ | refine AW_call rfl rfl (by first | exact kR) ?_ | refine AW_quiet rfl (q_polyAt rfl rfl hx tu_nums ts_num) ?_ | refine AW_quiet rfl (q_loadP rfl ty_num) ?_ | refine AW_nil (fun (h : false = true) => by cases h) ?_ | refine Wp_block ?_ | refine Wp_skip ?_
      refine Wp_condF rfl ?_
      repeat first | refine Wp_region tm_mixed ?_ | refine AW_move rfl rfl ?_ | refine AW_assign rfl rfl ?_ | refine AW_quiet rfl (q_addE rfl rfl hA) ?_ | refine AW_nil (fun (h : false = true) => by cases h) ?_ | refine Wp_skip ?_
      refine ⟨i + 1, ⟨hlt, fun j y hj hy => ?_⟩, le_of ⟨rfl, rfl, rfl, rfl, rfl, trivial⟩ ⟨rfl, rfl, rfl, trivial⟩ rfl, by show PS.length - (i + 1) < PS.length - i; omega⟩
      by_cases hji : j = i
      · subst hji; rw [hx] at hy; cases hy; exact hr
      · exact hall j y (by omega) hy
    | false =>
      rw [hr] at kR
      repeat first | refine Wp_seq ?_ | refine Wp_region tm_mixed ?_ | refine AW_move rfl rfl ?_ | refine AW_not rfl rfl ?_ | refine AW_call rfl rfl (by first | exact kR) ?_ | refine AW_quiet rfl (q_polyAt rfl rfl hx tu_nums ts_num) ?_ | refine AW_quiet rfl (q_loadP rfl ty_num) ?_ | refine AW_nil (fun (h : false = true) => by cases h) ?_ | refine Wp_block ?_ | refine Wp_skip ?_
      refine Wp_condT rfl ?_
      repeat first | refine Wp_seq ?_ | refine Wp_region tm_mixed ?_ | refine AW_assign rfl rfl ?_ | refine AW_store ty_num rfl rfl rfl rfl rfl rfl rfl ?_ | refine AW_build rfl tb_num rfl ?_ | refine AW_nil (fun (h : false = true) => by cases h) ?_ | refine Wp_ret ?_
      exact ⟨.inr rfl, _, .cell _ _ _ _ _ _ _ _ _ _ _ ty_num rfl rfl rfl (.tmp _ _ _ _ rfl .nil), rfl⟩
  · have hge : ¬ i < PS.length := by have := of_decide_eq_false hc; omega
    have hps : PS.all rightInt = true := by
      rw [List.all_eq_true]
      intro x hx
      obtain ⟨j, hj⟩ := List.getElem?_of_mem hx
      exact hall j x (by have := (List.getElem?_eq_some_iff.1 hj).1; omega) hj
    have kA := ct_RightInt A
    have kB := ct_RightInt B
    cases ha : rightInt A with
    | false =>
      rw [ha] at kA
      repeat first | refine Wp_seq ?_ | refine Wp_region tm_mixed ?_ | refine AW_move rfl rfl ?_ | refine AW_load rfl ty_num rfl rfl rfl rfl ?_ | refine AW_not rfl rfl ?_ | refine AW_call rfl rfl (by first | exact kA) ?_ | refine AW_pickT rfl rfl rfl ?_ | refine AW_skip rfl rfl rfl rfl ?_ | refine AW_nil (fun (h : false = true) => by cases h) ?_ | refine Wp_exit ?_
      refine Wp_condT rfl ?_
      repeat first | refine Wp_seq ?_ | refine Wp_region tm_mixed ?_ | refine AW_assign rfl rfl ?_ | refine AW_store ty_num rfl rfl rfl rfl rfl rfl rfl ?_ | refine AW_build rfl tb_num rfl ?_ | refine AW_nil (fun (h : false = true) => by cases h) ?_ | refine Wp_ret ?_
      exact ⟨.inr rfl, _, .cell _ _ _ _ _ _ _ _ _ _ _ ty_num rfl rfl rfl (.tmp _ _ _ _ rfl .nil), rfl⟩
    | true =>
      have hb : rightInt B = false := by
        rw [List.all_append, hps] at h
        simpa [ha] using h
      rw [ha] at kA
      rw [hb] at kB
      repeat first | refine Wp_seq ?_ | refine Wp_region tm_mixed ?_ | refine AW_move rfl rfl ?_ | refine AW_load rfl ty_num rfl rfl rfl rfl ?_ | refine AW_not rfl rfl ?_ | refine AW_call rfl rfl (by first | exact kA | exact kB) ?_ | refine AW_pickF rfl rfl rfl ?_ | refine AW_notg rfl rfl rfl rfl rfl ?_ | refine AW_loadg rfl rfl rfl rfl ty_num rfl rfl rfl rfl ?_ | refine AW_callg rfl rfl rfl rfl rfl (by first | exact kA | exact kB) ?_ | refine AW_nil (fun (h : false = true) => by cases h) ?_ | refine Wp_exit ?_
      refine Wp_condT rfl ?_
      repeat first | refine Wp_seq ?_ | refine Wp_region tm_mixed ?_ | refine AW_assign rfl rfl ?_ | refine AW_store ty_num rfl rfl rfl rfl rfl rfl rfl ?_ | refine AW_build rfl tb_num rfl ?_ | refine AW_nil (fun (h : false = true) => by cases h) ?_ | refine Wp_ret ?_
      exact ⟨.inr rfl, _, .cell _ _ _ _ _ _ _ _ _ _ _ ty_num rfl rfl rfl (.tmp _ _ _ _ rfl .nil), rfl⟩
set_option maxHeartbeats 4000000 in
set_option maxRecDepth 100000 in
theorem ct_rOrder_mod (A B : Raw) (PS : List Raw) (KS : List Int) (hl : PS.length ≤ 1000) (hall : ∀ x ∈ [A, B] ++ PS, rightInt x = true) (e : Int) (he : muE B = e) (hn : (e != 0) = true) : Ct Tryz.prog 23 [aNum A, aNum B, .val (.one (.st (polyP PS))), .val (.one (.st (intsP KS)))] (.tup [aInt (false, []), aI e]) := by
  refine ct_of_wp [.cell 8 24, .tmp 9] [(0, aNum A), (1, aNum B), (2, .val (.one (.st (polyP PS)))), (3, .val (.one (.st (intsP KS))))] 142 Tryz.func23 rfl rfl rfl rfl rfl rfl rfl rfl ?_
  intro G0 w0
  have k3 := ct_r21modulus B
  rw [he] at k3
  have hn0 : (e == 0) = false := by simpa [bne] using hn
  have kD := ct_r21one
  have kRA := ct_RightInt (A)
  have kRB := ct_RightInt (B)
  rw [hall (A) (by simp)] at kRA
  rw [hall (B) (by simp)] at kRB
  repeat first | refine Wp_seq ?_ | refine Wp_region tm_mixed ?_ | refine AW_assign rfl rfl ?_ | refine AW_alloc rfl tz_num ?_ | refine AW_box rfl rfl (row := true) rfl (fun h => by cases h) rfl ?_ | refine AW_nil (fun (h : false = true) => by cases h) ?_ | refine Wp_block ?_
  refine Wp_loop (fun i : Nat => ⟨[(2, .val (.one (.st (polyP (PS))))), (3, .val (.one (.st (intsP (KS))))), (4, .val (.one (.ptr 0 0))), (5, .val (.one (.ptr 1 0))), (8, .val (.one (.ptr 2 0))), (10, .val (aI (i : Int)))],
    [(0, 24, [.b (A).1, .st (magP (A).2)]), (1, 24, [.b (B).1, .st (magP (B).2)]), (2, 24, [.b false, .st (magP [])])], 3⟩) (fun i => i ≤ (PS).length) (fun i => (PS).length - i) 0 (Nat.zero_le _) (le_of ⟨rfl, rfl, rfl, rfl, rfl, rfl, trivial⟩ ⟨rfl, rfl, rfl, trivial⟩ rfl) ?_
  intro i hi
  repeat first | refine Wp_seq ?_ | refine Wp_region tm_mixed ?_ | refine AW_move rfl rfl ?_ | refine AW_quiet rfl (q_lenPoly rfl rfl tu_nums) ?_ | refine AW_quiet rfl (q_lt rfl rfl) ?_ | refine AW_nil (fun (h : false = true) => by cases h) ?_
  refine Wp_cond rfl (fun hc => ?_) (fun hc => ?_)
  · have hlt : i < (PS).length := by have := of_decide_eq_true hc; omega
    obtain ⟨x, hx⟩ : ∃ x, (PS)[i]? = some x := ⟨_, List.getElem?_eq_getElem hlt⟩
    have kR := ct_RightInt x
    rw [hall x (by simp only [List.mem_append]; exact .inr (List.mem_of_getElem? hx))] at kR
    have hA := lt_facts (k := i) (by omega)
    repeat first | refine Wp_seq ?_ | refine Wp_region tm_mixed ?_ | refine AW_move rfl rfl ?_ | refine AW_not rfl rfl ?_ | refine AW_call rfl rfl (by first | exact kR) ?_ | refine AW_quiet rfl (q_polyAt rfl rfl hx tu_nums ts_num) ?_ | refine AW_quiet rfl (q_loadP rfl ty_num) ?_ | refine AW_nil (fun (h : false = true) => by cases h) ?_ | refine Wp_block ?_ | refine Wp_skip ?_
    refine Wp_condF rfl ?_
    repeat first | refine Wp_region tm_mixed ?_ | refine AW_move rfl rfl ?_ | refine AW_assign rfl rfl ?_ | refine AW_quiet rfl (q_addE rfl rfl hA) ?_ | refine AW_nil (fun (h : false = true) => by cases h) ?_ | refine Wp_skip ?_
    exact ⟨i + 1, hlt, le_of ⟨rfl, rfl, rfl, rfl, rfl, rfl, trivial⟩ ⟨rfl, rfl, rfl, trivial⟩ rfl, by show (PS).length - (i + 1) < (PS).length - i; omega⟩
  repeat first | refine Wp_seq ?_ | refine Wp_region tm_mixed ?_ | refine AW_move rfl rfl ?_ | refine AW_load rfl ty_num rfl rfl rfl rfl ?_ | refine AW_not rfl rfl ?_ | refine AW_call rfl rfl (by first | exact kRA | exact kRB) ?_ | refine AW_pickF rfl rfl rfl ?_ | refine AW_notg rfl rfl rfl rfl rfl ?_ | refine AW_loadg rfl rfl rfl rfl ty_num rfl rfl rfl rfl ?_ | refine AW_callg rfl rfl rfl rfl rfl (by first | exact kRA | exact kRB) ?_ | refine AW_nil (fun (h : false = true) => by cases h) ?_ | refine Wp_exit ?_
  refine Wp_condF rfl ?_
  repeat first | refine Wp_seq ?_ | refine Wp_region tm_mixed ?_ | refine AW_move rfl rfl ?_ | refine AW_assign rfl rfl ?_ | refine AW_load rfl ty_num rfl rfl rfl rfl ?_ | refine AW_call rfl rfl (by first | exact k3) ?_ | refine AW_quiet rfl (q_eqE rfl rfl hn0) ?_ | refine AW_nil (fun (h : false = true) => by cases h) ?_ | refine Wp_skip ?_
  refine Wp_condF rfl ?_
  repeat first | refine Wp_seq ?_ | refine Wp_region tm_mixed ?_ | refine AW_move rfl rfl ?_ | refine AW_quiet rfl (q_neE rfl rfl hn) ?_ | refine AW_nil (fun (h : false = true) => by cases h) ?_ | refine Wp_skip ?_
  refine Wp_condT rfl ?_
  repeat first | refine Wp_seq ?_ | refine Wp_region tm_mixed ?_ | refine AW_move rfl rfl ?_ | refine AW_assign rfl rfl ?_ | refine AW_store ty_num rfl rfl rfl rfl rfl rfl rfl ?_ | refine AW_build rfl tb_num rfl ?_ | refine AW_nil (fun (h : false = true) => by cases h) ?_ | refine Wp_ret ?_
  exact ⟨.inr rfl, _, .cell _ _ _ _ _ _ _ _ _ _ _ ty_num rfl rfl rfl (.tmp _ _ _ _ rfl .nil), rfl⟩
set_option maxHeartbeats 4000000 in
set_option maxRecDepth 100000 in
theorem ct_rOrder_lists (A B : Raw) (PS : List Raw) (KS : List Int) (hl : PS.length ≤ 1000) (hall : ∀ x ∈ [A, B] ++ PS, rightInt x = true) (hsm : ∀ x ∈ PS, Small x.2) (he : muE B = 0) (e : Int) (hL : listE PS KS = e) (hn : (e != 0) = true) : Ct Tryz.prog 23 [aNum A, aNum B, .val (.one (.st (polyP PS))), .val (.one (.st (intsP KS)))] (.tup [aInt (false, []), aI e]) := by
  refine ct_of_wp [.cell 8 24, .tmp 9] [(0, aNum A), (1, aNum B), (2, .val (.one (.st (polyP PS)))), (3, .val (.one (.st (intsP KS))))] 142 Tryz.func23 rfl rfl rfl rfl rfl rfl rfl rfl ?_
  intro G0 w0
  have k3 := ct_r21modulus B
  rw [he] at k3
  have k4 := ct_rlists PS KS hl (fun x hx => hall x (by simp only [List.mem_append]; exact .inr hx)) hsm
  rw [hL] at k4
  have kD := ct_r21one
  have kRA := ct_RightInt (A)
  have kRB := ct_RightInt (B)
  rw [hall (A) (by simp)] at kRA
  rw [hall (B) (by simp)] at kRB
  repeat first | refine Wp_seq ?_ | refine Wp_region tm_mixed ?_ | refine AW_assign rfl rfl ?_ | refine AW_alloc rfl tz_num ?_ | refine AW_box rfl rfl (row := true) rfl (fun h => by cases h) rfl ?_ | refine AW_nil (fun (h : false = true) => by cases h) ?_ | refine Wp_block ?_
  refine Wp_loop (fun i : Nat => ⟨[(2, .val (.one (.st (polyP (PS))))), (3, .val (.one (.st (intsP (KS))))), (4, .val (.one (.ptr 0 0))), (5, .val (.one (.ptr 1 0))), (8, .val (.one (.ptr 2 0))), (10, .val (aI (i : Int)))],
    [(0, 24, [.b (A).1, .st (magP (A).2)]), (1, 24, [.b (B).1, .st (magP (B).2)]), (2, 24, [.b false, .st (magP [])])], 3⟩) (fun i => i ≤ (PS).length) (fun i => (PS).length - i) 0 (Nat.zero_le _) (le_of ⟨rfl, rfl, rfl, rfl, rfl, rfl, trivial⟩ ⟨rfl, rfl, rfl, trivial⟩ rfl) ?_
  intro i hi
  repeat first | refine Wp_seq ?_ | refine Wp_region tm_mixed ?_ | refine AW_move rfl rfl ?_ | refine AW_quiet rfl (q_lenPoly rfl rfl tu_nums) ?_ | refine AW_quiet rfl (q_lt rfl rfl) ?_ | refine AW_nil (fun (h : false = true) => by cases h) ?_
  refine Wp_cond rfl (fun hc => ?_) (fun hc => ?_)
  · have hlt : i < (PS).length := by have := of_decide_eq_true hc; omega
    obtain ⟨x, hx⟩ : ∃ x, (PS)[i]? = some x := ⟨_, List.getElem?_eq_getElem hlt⟩
    have kR := ct_RightInt x
    rw [hall x (by simp only [List.mem_append]; exact .inr (List.mem_of_getElem? hx))] at kR
    have hA := lt_facts (k := i) (by omega)
    repeat first | refine Wp_seq ?_ | refine Wp_region tm_mixed ?_ | refine AW_move rfl rfl ?_ | refine AW_not rfl rfl ?_ | refine AW_call rfl rfl (by first | exact kR) ?_ | refine AW_quiet rfl (q_polyAt rfl rfl hx tu_nums ts_num) ?_ | refine AW_quiet rfl (q_loadP rfl ty_num) ?_ | refine AW_nil (fun (h : false = true) => by cases h) ?_ | refine Wp_block ?_ | refine Wp_skip ?_
    refine Wp_condF rfl ?_
    repeat first | refine Wp_region tm_mixed ?_ | refine AW_move rfl rfl ?_ | refine AW_assign rfl rfl ?_ | refine AW_quiet rfl (q_addE rfl rfl hA) ?_ | refine AW_nil (fun (h : false = true) => by cases h) ?_ | refine Wp_skip ?_
    exact ⟨i + 1, hlt, le_of ⟨rfl, rfl, rfl, rfl, rfl, rfl, trivial⟩ ⟨rfl, rfl, rfl, trivial⟩ rfl, by show (PS).length - (i + 1) < (PS).length - i; omega⟩
  repeat first | refine Wp_seq ?_ | refine Wp_region tm_mixed ?_ | refine AW_move rfl rfl ?_ | refine AW_load rfl ty_num rfl rfl rfl rfl ?_ | refine AW_not rfl rfl ?_ | refine AW_call rfl rfl (by first | exact kRA | exact kRB) ?_ | refine AW_pickF rfl rfl rfl ?_ | refine AW_notg rfl rfl rfl rfl rfl ?_ | refine AW_loadg rfl rfl rfl rfl ty_num rfl rfl rfl rfl ?_ | refine AW_callg rfl rfl rfl rfl rfl (by first | exact kRA | exact kRB) ?_ | refine AW_nil (fun (h : false = true) => by cases h) ?_ | refine Wp_exit ?_
  refine Wp_condF rfl ?_
  repeat first | refine Wp_seq ?_ | refine Wp_region tm_mixed ?_ | refine AW_move rfl rfl ?_ | refine AW_assign rfl rfl ?_ | refine AW_load rfl ty_num rfl rfl rfl rfl ?_ | refine AW_call rfl rfl (by first | exact k3) ?_ | refine AW_eq rfl rfl rfl ?_ | refine AW_nil (fun (h : false = true) => by cases h) ?_ | refine Wp_skip ?_
  refine Wp_condT rfl ?_
  repeat first | refine Wp_seq ?_ | refine Wp_region tm_mixed ?_ | refine AW_move rfl rfl ?_ | refine AW_assign rfl rfl ?_ | refine AW_call rfl rfl (by first | exact k4) ?_ | refine AW_quiet rfl (q_neE rfl rfl hn) ?_ | refine AW_nil (fun (h : false = true) => by cases h) ?_
  refine Wp_condT rfl ?_
  repeat first | refine Wp_seq ?_ | refine Wp_region tm_mixed ?_ | refine AW_move rfl rfl ?_ | refine AW_assign rfl rfl ?_ | refine AW_store ty_num rfl rfl rfl rfl rfl rfl rfl ?_ | refine AW_build rfl tb_num rfl ?_ | refine AW_nil (fun (h : false = true) => by cases h) ?_ | refine Wp_ret ?_
  exact ⟨.inr rfl, _, .cell _ _ _ _ _ _ _ _ _ _ _ ty_num rfl rfl rfl (.tmp _ _ _ _ rfl .nil), rfl⟩
set_option maxHeartbeats 4000000 in
set_option maxRecDepth 100000 in
theorem ct_rOrder_none (a m : Int) (l : List (Nat × Nat)) (ha : lc a.natAbs ≤ 90) (hm : lc m.natAbs ≤ 90) (h0 : 0 < m) (h2 : ∀ q ∈ l, 2 ≤ q.1) (h64 : ∀ q ∈ l, q.2 ≤ 64) (hl : l.length ≤ 1000) (hW : lc (wholeP l) ≤ 1000) (hall : ∀ x ∈ [rawOf a, rawOf m] ++ psR l, rightInt x = true) (hg : gcdZ a m ≠ 1) :
    Ct Tryz.prog 23 [aZ a, aZ m, .val (.one (.st (polyP (psR l)))), .val (.one (.st (intsP (ksI l))))] (.tup [aInt (false, []), aI 310]) := by
  refine ct_of_wp [.cell 8 24, .tmp 9] [(0, aZ a), (1, aZ m), (2, .val (.one (.st (polyP (psR l))))), (3, .val (.one (.st (intsP (ksI l)))))] 142 Tryz.func23 rfl rfl rfl rfl rfl rfl rfl rfl ?_
  intro G0 w0
  have k5 := ct_apart a.natAbs m.natAbs (by omega) (by omega)
  rw [gcd_nat, decide_eq_false hg] at k5
  have k3 := ct_r21modulus (rawOf m)
  rw [muE_pos h0] at k3
  have hpl := psR_len l
  have k4 := ct_rlists (psR l) (ksI l) (by omega) (fun x hx => hall x (by simp only [List.mem_append]; exact .inr hx)) (fun x hx => by
    obtain ⟨q, _, rfl⟩ := List.mem_map.1 hx
    exact small_limbs _)
  rw [listE_ok h2 h64] at k4
  have kD := ct_r21one
  have kRA := ct_RightInt (rawOf a)
  have kRB := ct_RightInt (rawOf m)
  rw [hall (rawOf a) (by simp)] at kRA
  rw [hall (rawOf m) (by simp)] at kRB
  repeat first | refine Wp_seq ?_ | refine Wp_region tm_mixed ?_ | refine AW_assign rfl rfl ?_ | refine AW_alloc rfl tz_num ?_ | refine AW_box rfl rfl (row := true) rfl (fun h => by cases h) rfl ?_ | refine AW_nil (fun (h : false = true) => by cases h) ?_ | refine Wp_block ?_
  refine Wp_loop (fun i : Nat => ⟨[(2, .val (.one (.st (polyP (psR l))))), (3, .val (.one (.st (intsP (ksI l))))), (4, .val (.one (.ptr 0 0))), (5, .val (.one (.ptr 1 0))), (8, .val (.one (.ptr 2 0))), (10, .val (aI (i : Int)))],
    [(0, 24, [.b (rawOf a).1, .st (magP (rawOf a).2)]), (1, 24, [.b (rawOf m).1, .st (magP (rawOf m).2)]), (2, 24, [.b false, .st (magP [])])], 3⟩) (fun i => i ≤ (psR l).length) (fun i => (psR l).length - i) 0 (Nat.zero_le _) (le_of ⟨rfl, rfl, rfl, rfl, rfl, rfl, trivial⟩ ⟨rfl, rfl, rfl, trivial⟩ rfl) ?_
  intro i hi
  repeat first | refine Wp_seq ?_ | refine Wp_region tm_mixed ?_ | refine AW_move rfl rfl ?_ | refine AW_quiet rfl (q_lenPoly rfl rfl tu_nums) ?_ | refine AW_quiet rfl (q_lt rfl rfl) ?_ | refine AW_nil (fun (h : false = true) => by cases h) ?_
  refine Wp_cond rfl (fun hc => ?_) (fun hc => ?_)
  · have hlt : i < (psR l).length := by have := of_decide_eq_true hc; omega
    obtain ⟨x, hx⟩ : ∃ x, (psR l)[i]? = some x := ⟨_, List.getElem?_eq_getElem hlt⟩
    have kR := ct_RightInt x
    rw [hall x (by simp only [List.mem_append]; exact .inr (List.mem_of_getElem? hx))] at kR
    have hA := lt_facts (k := i) (by omega)
    repeat first | refine Wp_seq ?_ | refine Wp_region tm_mixed ?_ | refine AW_move rfl rfl ?_ | refine AW_not rfl rfl ?_ | refine AW_call rfl rfl (by first | exact kR) ?_ | refine AW_quiet rfl (q_polyAt rfl rfl hx tu_nums ts_num) ?_ | refine AW_quiet rfl (q_loadP rfl ty_num) ?_ | refine AW_nil (fun (h : false = true) => by cases h) ?_ | refine Wp_block ?_ | refine Wp_skip ?_
    refine Wp_condF rfl ?_
    repeat first | refine Wp_region tm_mixed ?_ | refine AW_move rfl rfl ?_ | refine AW_assign rfl rfl ?_ | refine AW_quiet rfl (q_addE rfl rfl hA) ?_ | refine AW_nil (fun (h : false = true) => by cases h) ?_ | refine Wp_skip ?_
    exact ⟨i + 1, hlt, le_of ⟨rfl, rfl, rfl, rfl, rfl, rfl, trivial⟩ ⟨rfl, rfl, rfl, trivial⟩ rfl, by show (psR l).length - (i + 1) < (psR l).length - i; omega⟩
  repeat first | refine Wp_seq ?_ | refine Wp_region tm_mixed ?_ | refine AW_move rfl rfl ?_ | refine AW_load rfl ty_num rfl rfl rfl rfl ?_ | refine AW_not rfl rfl ?_ | refine AW_call rfl rfl (by first | exact kRA | exact kRB) ?_ | refine AW_pickF rfl rfl rfl ?_ | refine AW_notg rfl rfl rfl rfl rfl ?_ | refine AW_loadg rfl rfl rfl rfl ty_num rfl rfl rfl rfl ?_ | refine AW_callg rfl rfl rfl rfl rfl (by first | exact kRA | exact kRB) ?_ | refine AW_nil (fun (h : false = true) => by cases h) ?_ | refine Wp_exit ?_
  refine Wp_condF rfl ?_
  repeat first | refine Wp_seq ?_ | refine Wp_region tm_mixed ?_ | refine AW_move rfl rfl ?_ | refine AW_assign rfl rfl ?_ | refine AW_load rfl ty_num rfl rfl rfl rfl ?_ | refine AW_call rfl rfl (by first | exact k3) ?_ | refine AW_eq rfl rfl rfl ?_ | refine AW_nil (fun (h : false = true) => by cases h) ?_ | refine Wp_skip ?_
  refine Wp_condT rfl ?_
  repeat first | refine Wp_seq ?_ | refine Wp_region tm_mixed ?_ | refine AW_move rfl rfl ?_ | refine AW_assign rfl rfl ?_ | refine AW_call rfl rfl (by first | exact k4) ?_ | refine AW_ne rfl rfl rfl ?_ | refine AW_nil (fun (h : false = true) => by cases h) ?_
  refine Wp_condF rfl ?_
  repeat first | refine Wp_seq ?_ | refine Wp_region tm_mixed ?_ | refine AW_assign rfl rfl ?_ | refine AW_call rfl rfl (by first | exact kD) ?_ | refine AW_nil (fun (h : false = true) => by cases h) ?_ | refine Wp_block ?_ | refine Wp_skip ?_
  refine Wp_loop (fun i : Nat => ⟨[(2, .val (.one (.st (polyP (psR l))))), (3, .val (.one (.st (intsP (ksI l))))), (4, .val (.one (.ptr 0 0))), (5, .val (.one (.ptr 1 0))), (8, .val (.one (.ptr 2 0))), (12, aN (wholeP (l.take i))), (13, .val (aI (i : Int)))],
    [(0, 24, [.b (rawOf a).1, .st (magP (rawOf a).2)]), (1, 24, [.b (rawOf m).1, .st (magP (rawOf m).2)]), (2, 24, [.b false, .st (magP [])])], 3⟩) (fun i => i ≤ l.length) (fun i => l.length - i) 0 (Nat.zero_le _) (le_of ⟨rfl, rfl, rfl, rfl, rfl, rfl, rfl, trivial⟩ ⟨rfl, rfl, rfl, trivial⟩ rfl) ?_
  intro i hi
  repeat first | refine Wp_seq ?_ | refine Wp_region tm_mixed ?_ | refine AW_move rfl rfl ?_ | refine AW_quiet rfl (q_lenPoly rfl rfl tu_nums) ?_ | refine AW_quiet rfl (q_lt rfl rfl) ?_ | refine AW_nil (fun (h : false = true) => by cases h) ?_
  refine Wp_cond rfl (fun hc => ?_) (fun hc => ?_)
  · have hlt : i < l.length := by have := of_decide_eq_true hc; omega
    obtain ⟨q, hq⟩ : ∃ q, l[i]? = some q := ⟨_, List.getElem?_eq_getElem hlt⟩
    have hp := psR_at hq
    have hk := ksI_at hq
    have hq64 := h64 q (List.mem_of_getElem? hq)
    repeat first | refine Wp_seq ?_ | refine Wp_region tm_mixed ?_ | refine AW_assign rfl rfl ?_ | refine AW_nil (fun (h : false = true) => by cases h) ?_ | refine Wp_block ?_ | refine Wp_skip ?_
    refine Wp_loop (fun k : Nat => ⟨[(2, .val (.one (.st (polyP (psR l))))), (3, .val (.one (.st (intsP (ksI l))))), (4, .val (.one (.ptr 0 0))), (5, .val (.one (.ptr 1 0))), (8, .val (.one (.ptr 2 0))), (12, aN (wholeP (l.take i) * q.1 ^ k)), (13, .val (aI (i : Int))), (14, .val (aI (k : Int)))],
      [(0, 24, [.b (rawOf a).1, .st (magP (rawOf a).2)]), (1, 24, [.b (rawOf m).1, .st (magP (rawOf m).2)]), (2, 24, [.b false, .st (magP [])])], 3⟩) (fun k => k ≤ q.2) (fun k => q.2 - k) 0 (Nat.zero_le _)
      (le_of ⟨rfl, rfl, rfl, rfl, rfl, by dsimp only; rw [Nat.pow_zero, Nat.mul_one]; rfl, rfl, rfl, trivial⟩ ⟨rfl, rfl, rfl, trivial⟩ rfl) ?_
    intro k hk2
    repeat first | refine Wp_seq ?_ | refine Wp_region tm_mixed ?_ | refine AW_move rfl rfl ?_ | refine AW_quiet rfl (q_intAt rfl rfl hk tu_ints ts_int) ?_ | refine AW_quiet rfl (q_intLoad rfl ty_int) ?_ | refine AW_quiet rfl (q_lt rfl rfl) ?_ | refine AW_nil (fun (h : false = true) => by cases h) ?_
    refine Wp_cond rfl (fun hd => ?_) (fun hd => ?_)
    · have hkl : k < q.2 := by have := of_decide_eq_true hd; omega
      have b1 := wholeP_part (fun q hq => by have := h2 q hq; omega) hq (k := k) (by omega)
      have b2 := wholeP_part (fun q hq => by have := h2 q hq; omega) hq (k := k + 1) (by omega)
      have b3 := wholeP_prime (fun q hq => by have := h2 q hq; omega) hq (by omega)
      have e1 : wholeP (l.take i) * q.1 ^ (k + 1) = wholeP (l.take i) * q.1 ^ k * q.1 := by rw [Nat.pow_succ, Nat.mul_assoc]
      have l1 := Nat.le_trans (lc_mono b1) hW
      have l3 := Nat.le_trans (lc_mono b3) hW
      have kM := ct_NatMul (wholeP (l.take i) * q.1 ^ k) q.1 (by omega) (by omega)
      rw [← e1] at kM
      have l2 := Nat.le_trans (lc_mono b2) hW
      have kN := ct_NatBits (wholeP (l.take i) * q.1 ^ (k + 1)) (by omega)
      have hB : decide ((262144 : Int) < ((nbits (wholeP (l.take i) * q.1 ^ (k + 1)) : Nat) : Int)) = false := decide_eq_false (by have := nbits_lc l2; omega)
      have hA := lt_facts (k := k) (by omega)
      repeat first | refine Wp_seq ?_ | refine Wp_region tm_mixed ?_ | refine AW_move rfl rfl ?_ | refine AW_assign rfl rfl ?_ | refine AW_call rfl rfl (by first | exact kM | exact kN) ?_ | refine AW_quiet rfl (q_polyAt rfl rfl hp tu_nums ts_num) ?_ | refine AW_quiet rfl (q_recMag Tryz.underlying24 rfl rfl tz_mag1 rfl) ?_ | refine AW_quiet rfl (q_slot ty_mag rfl) ?_ | refine AW_quiet rfl (q_gtE rfl rfl hB) ?_ | refine AW_nil (fun (h : false = true) => by cases h) ?_ | refine Wp_block ?_ | refine Wp_skip ?_
      refine Wp_condF rfl ?_
      repeat first | refine Wp_region tm_mixed ?_ | refine AW_move rfl rfl ?_ | refine AW_assign rfl rfl ?_ | refine AW_quiet rfl (q_addE rfl rfl hA) ?_ | refine AW_nil (fun (h : false = true) => by cases h) ?_ | refine Wp_skip ?_
      exact ⟨k + 1, hkl, le_of ⟨rfl, rfl, rfl, rfl, rfl, rfl, rfl, rfl, trivial⟩ ⟨rfl, rfl, rfl, trivial⟩ rfl, by show q.2 - (k + 1) < q.2 - k; omega⟩
    · have hkl : k = q.2 := by have := of_decide_eq_false hd; omega
      subst hkl
      have hA := lt_facts (k := i) (by omega)
      repeat first | refine Wp_region tm_mixed ?_ | refine AW_move rfl rfl ?_ | refine AW_assign rfl rfl ?_ | refine AW_quiet rfl (q_addE rfl rfl hA) ?_ | refine AW_nil (fun (h : false = true) => by cases h) ?_ | refine Wp_exit ?_
      exact ⟨i + 1, hlt, le_of ⟨rfl, rfl, rfl, rfl, rfl, by dsimp only; rw [wholeP_next hq]; rfl, rfl, trivial⟩ ⟨rfl, rfl, rfl, trivial⟩ rfl, by show l.length - (i + 1) < l.length - i; omega⟩
  have hge : i = l.length := by have := of_decide_eq_false hc; omega
  subst hge
  rw [List.take_of_length_le (Nat.le_refl _)]
  repeat first | refine Wp_seq ?_ | refine Wp_region tm_mixed ?_ | refine AW_not rfl rfl ?_ | refine AW_call rfl rfl (by first | exact k5) ?_ | refine AW_fieldAddr rfl tf_mag rfl rfl ?_ | refine AW_load rfl ty_mag rfl rfl rfl rfl ?_ | refine AW_nil (fun (h : false = true) => by cases h) ?_ | refine Wp_exit ?_
  refine Wp_condT rfl ?_
  repeat first | refine Wp_seq ?_ | refine Wp_region tm_mixed ?_ | refine AW_assign rfl rfl ?_ | refine AW_store ty_num rfl rfl rfl rfl rfl rfl rfl ?_ | refine AW_build rfl tb_num rfl ?_ | refine AW_nil (fun (h : false = true) => by cases h) ?_ | refine Wp_ret ?_
  exact ⟨.inr rfl, _, .cell _ _ _ _ _ _ _ _ _ _ _ ty_num rfl rfl rfl (.tmp _ _ _ _ rfl .nil), rfl⟩
set_option maxHeartbeats 4000000 in
set_option maxRecDepth 100000 in
theorem ct_rOrder_not (a m : Int) (l : List (Nat × Nat)) (ha : lc a.natAbs ≤ 90) (hm : lc m.natAbs ≤ 90) (h0 : 0 < m) (h2 : ∀ q ∈ l, 2 ≤ q.1) (h64 : ∀ q ∈ l, q.2 ≤ 64) (hl : l.length ≤ 1000) (hW : lc (wholeP l) ≤ 1000) (hall : ∀ x ∈ [rawOf a, rawOf m] ++ psR l, rightInt x = true) (hg : gcdZ a m = 1) (hN : isZ (a % m) m (wholeP l) = false) :
    Ct Tryz.prog 23 [aZ a, aZ m, .val (.one (.st (polyP (psR l)))), .val (.one (.st (intsP (ksI l))))] (.tup [aInt (false, []), aI 2]) := by
  refine ct_of_wp [.cell 8 24, .tmp 9] [(0, aZ a), (1, aZ m), (2, .val (.one (.st (polyP (psR l))))), (3, .val (.one (.st (intsP (ksI l)))))] 142 Tryz.func23 rfl rfl rfl rfl rfl rfl rfl rfl ?_
  intro G0 w0
  have k5 := ct_apart a.natAbs m.natAbs (by omega) (by omega)
  rw [gcd_nat, decide_eq_true hg] at k5
  have k6 := ct_modulo a m.natAbs (by omega) (by omega) (by omega)
  rw [show (m.natAbs : Int) = m by omega] at k6
  have lo : lc 1 ≤ 4096 := Nat.le_trans (lc_le.2 (show 1 < W64 ^ 1 by rw [W64_eq]; decide)) (by decide)
  have k7 := ct_rest 1 m.natAbs (by omega) (by omega) (by omega)
  have hr1 := Int.emod_nonneg a (show m ≠ 0 by omega)
  have hr2 := Int.emod_lt_of_pos a h0
  have lr : lc (a % m).natAbs ≤ 90 := Nat.le_trans (lc_mono (by omega)) hm
  have k8 := ct_NatTrim (wholeP l) (by omega)
  have k9 := ct_r21power (a % m).natAbs (wholeP l) m.natAbs (by omega) (by omega) (by omega) (by omega)
  have l8 : lc ((a % m).natAbs ^ wholeP l % m.natAbs) ≤ 90 := mod_lc (by omega) hm
  have l9 : lc (1 % m.natAbs) ≤ 90 := mod_lc (by omega) hm
  have kC := ct_NatCmp ((a % m).natAbs ^ wholeP l % m.natAbs) (1 % m.natAbs) (by omega) (by omega)
  have hC : (cmpN ((a % m).natAbs ^ wholeP l % m.natAbs) (1 % m.natAbs) != 0) = !isZ (a % m) m (wholeP l) := by rw [cmpN_not0, isZ_abs hr1 h0]
  rw [hN] at hC
  have k3 := ct_r21modulus (rawOf m)
  rw [muE_pos h0] at k3
  have hpl := psR_len l
  have k4 := ct_rlists (psR l) (ksI l) (by omega) (fun x hx => hall x (by simp only [List.mem_append]; exact .inr hx)) (fun x hx => by
    obtain ⟨q, _, rfl⟩ := List.mem_map.1 hx
    exact small_limbs _)
  rw [listE_ok h2 h64] at k4
  have kD := ct_r21one
  have kRA := ct_RightInt (rawOf a)
  have kRB := ct_RightInt (rawOf m)
  rw [hall (rawOf a) (by simp)] at kRA
  rw [hall (rawOf m) (by simp)] at kRB
  repeat first | refine Wp_seq ?_ | refine Wp_region tm_mixed ?_ | refine AW_assign rfl rfl ?_ | refine AW_alloc rfl tz_num ?_ | refine AW_box rfl rfl (row := true) rfl (fun h => by cases h) rfl ?_ | refine AW_nil (fun (h : false = true) => by cases h) ?_ | refine Wp_block ?_
  refine Wp_loop (fun i : Nat => ⟨[(2, .val (.one (.st (polyP (psR l))))), (3, .val (.one (.st (intsP (ksI l))))), (4, .val (.one (.ptr 0 0))), (5, .val (.one (.ptr 1 0))), (8, .val (.one (.ptr 2 0))), (10, .val (aI (i : Int)))],
    [(0, 24, [.b (rawOf a).1, .st (magP (rawOf a).2)]), (1, 24, [.b (rawOf m).1, .st (magP (rawOf m).2)]), (2, 24, [.b false, .st (magP [])])], 3⟩) (fun i => i ≤ (psR l).length) (fun i => (psR l).length - i) 0 (Nat.zero_le _) (le_of ⟨rfl, rfl, rfl, rfl, rfl, rfl, trivial⟩ ⟨rfl, rfl, rfl, trivial⟩ rfl) ?_
  intro i hi
  repeat first | refine Wp_seq ?_ | refine Wp_region tm_mixed ?_ | refine AW_move rfl rfl ?_ | refine AW_quiet rfl (q_lenPoly rfl rfl tu_nums) ?_ | refine AW_quiet rfl (q_lt rfl rfl) ?_ | refine AW_nil (fun (h : false = true) => by cases h) ?_
  refine Wp_cond rfl (fun hc => ?_) (fun hc => ?_)
  · have hlt : i < (psR l).length := by have := of_decide_eq_true hc; omega
    obtain ⟨x, hx⟩ : ∃ x, (psR l)[i]? = some x := ⟨_, List.getElem?_eq_getElem hlt⟩
    have kR := ct_RightInt x
    rw [hall x (by simp only [List.mem_append]; exact .inr (List.mem_of_getElem? hx))] at kR
    have hA := lt_facts (k := i) (by omega)
    repeat first | refine Wp_seq ?_ | refine Wp_region tm_mixed ?_ | refine AW_move rfl rfl ?_ | refine AW_not rfl rfl ?_ | refine AW_call rfl rfl (by first | exact kR) ?_ | refine AW_quiet rfl (q_polyAt rfl rfl hx tu_nums ts_num) ?_ | refine AW_quiet rfl (q_loadP rfl ty_num) ?_ | refine AW_nil (fun (h : false = true) => by cases h) ?_ | refine Wp_block ?_ | refine Wp_skip ?_
    refine Wp_condF rfl ?_
    repeat first | refine Wp_region tm_mixed ?_ | refine AW_move rfl rfl ?_ | refine AW_assign rfl rfl ?_ | refine AW_quiet rfl (q_addE rfl rfl hA) ?_ | refine AW_nil (fun (h : false = true) => by cases h) ?_ | refine Wp_skip ?_
    exact ⟨i + 1, hlt, le_of ⟨rfl, rfl, rfl, rfl, rfl, rfl, trivial⟩ ⟨rfl, rfl, rfl, trivial⟩ rfl, by show (psR l).length - (i + 1) < (psR l).length - i; omega⟩
  repeat first | refine Wp_seq ?_ | refine Wp_region tm_mixed ?_ | refine AW_move rfl rfl ?_ | refine AW_load rfl ty_num rfl rfl rfl rfl ?_ | refine AW_not rfl rfl ?_ | refine AW_call rfl rfl (by first | exact kRA | exact kRB) ?_ | refine AW_pickF rfl rfl rfl ?_ | refine AW_notg rfl rfl rfl rfl rfl ?_ | refine AW_loadg rfl rfl rfl rfl ty_num rfl rfl rfl rfl ?_ | refine AW_callg rfl rfl rfl rfl rfl (by first | exact kRA | exact kRB) ?_ | refine AW_nil (fun (h : false = true) => by cases h) ?_ | refine Wp_exit ?_
  refine Wp_condF rfl ?_
  repeat first | refine Wp_seq ?_ | refine Wp_region tm_mixed ?_ | refine AW_move rfl rfl ?_ | refine AW_assign rfl rfl ?_ | refine AW_load rfl ty_num rfl rfl rfl rfl ?_ | refine AW_call rfl rfl (by first | exact k3) ?_ | refine AW_eq rfl rfl rfl ?_ | refine AW_nil (fun (h : false = true) => by cases h) ?_ | refine Wp_skip ?_
  refine Wp_condT rfl ?_
  repeat first | refine Wp_seq ?_ | refine Wp_region tm_mixed ?_ | refine AW_move rfl rfl ?_ | refine AW_assign rfl rfl ?_ | refine AW_call rfl rfl (by first | exact k4) ?_ | refine AW_ne rfl rfl rfl ?_ | refine AW_nil (fun (h : false = true) => by cases h) ?_
  refine Wp_condF rfl ?_
  repeat first | refine Wp_seq ?_ | refine Wp_region tm_mixed ?_ | refine AW_assign rfl rfl ?_ | refine AW_call rfl rfl (by first | exact kD) ?_ | refine AW_nil (fun (h : false = true) => by cases h) ?_ | refine Wp_block ?_ | refine Wp_skip ?_
  refine Wp_loop (fun i : Nat => ⟨[(2, .val (.one (.st (polyP (psR l))))), (3, .val (.one (.st (intsP (ksI l))))), (4, .val (.one (.ptr 0 0))), (5, .val (.one (.ptr 1 0))), (8, .val (.one (.ptr 2 0))), (12, aN (wholeP (l.take i))), (13, .val (aI (i : Int)))],
    [(0, 24, [.b (rawOf a).1, .st (magP (rawOf a).2)]), (1, 24, [.b (rawOf m).1, .st (magP (rawOf m).2)]), (2, 24, [.b false, .st (magP [])])], 3⟩) (fun i => i ≤ l.length) (fun i => l.length - i) 0 (Nat.zero_le _) (le_of ⟨rfl, rfl, rfl, rfl, rfl, rfl, rfl, trivial⟩ ⟨rfl, rfl, rfl, trivial⟩ rfl) ?_
  intro i hi
  repeat first | refine Wp_seq ?_ | refine Wp_region tm_mixed ?_ | refine AW_move rfl rfl ?_ | refine AW_quiet rfl (q_lenPoly rfl rfl tu_nums) ?_ | refine AW_quiet rfl (q_lt rfl rfl) ?_ | refine AW_nil (fun (h : false = true) => by cases h) ?_
  refine Wp_cond rfl (fun hc => ?_) (fun hc => ?_)
  · have hlt : i < l.length := by have := of_decide_eq_true hc; omega
    obtain ⟨q, hq⟩ : ∃ q, l[i]? = some q := ⟨_, List.getElem?_eq_getElem hlt⟩
    have hp := psR_at hq
    have hk := ksI_at hq
    have hq64 := h64 q (List.mem_of_getElem? hq)
    repeat first | refine Wp_seq ?_ | refine Wp_region tm_mixed ?_ | refine AW_assign rfl rfl ?_ | refine AW_nil (fun (h : false = true) => by cases h) ?_ | refine Wp_block ?_ | refine Wp_skip ?_
    refine Wp_loop (fun k : Nat => ⟨[(2, .val (.one (.st (polyP (psR l))))), (3, .val (.one (.st (intsP (ksI l))))), (4, .val (.one (.ptr 0 0))), (5, .val (.one (.ptr 1 0))), (8, .val (.one (.ptr 2 0))), (12, aN (wholeP (l.take i) * q.1 ^ k)), (13, .val (aI (i : Int))), (14, .val (aI (k : Int)))],
      [(0, 24, [.b (rawOf a).1, .st (magP (rawOf a).2)]), (1, 24, [.b (rawOf m).1, .st (magP (rawOf m).2)]), (2, 24, [.b false, .st (magP [])])], 3⟩) (fun k => k ≤ q.2) (fun k => q.2 - k) 0 (Nat.zero_le _)
      (le_of ⟨rfl, rfl, rfl, rfl, rfl, by dsimp only; rw [Nat.pow_zero, Nat.mul_one]; rfl, rfl, rfl, trivial⟩ ⟨rfl, rfl, rfl, trivial⟩ rfl) ?_
    intro k hk2
    repeat first | refine Wp_seq ?_ | refine Wp_region tm_mixed ?_ | refine AW_move rfl rfl ?_ | refine AW_quiet rfl (q_intAt rfl rfl hk tu_ints ts_int) ?_ | refine AW_quiet rfl (q_intLoad rfl ty_int) ?_ | refine AW_quiet rfl (q_lt rfl rfl) ?_ | refine AW_nil (fun (h : false = true) => by cases h) ?_
    refine Wp_cond rfl (fun hd => ?_) (fun hd => ?_)
    · have hkl : k < q.2 := by have := of_decide_eq_true hd; omega
      have b1 := wholeP_part (fun q hq => by have := h2 q hq; omega) hq (k := k) (by omega)
      have b2 := wholeP_part (fun q hq => by have := h2 q hq; omega) hq (k := k + 1) (by omega)
      have b3 := wholeP_prime (fun q hq => by have := h2 q hq; omega) hq (by omega)
      have e1 : wholeP (l.take i) * q.1 ^ (k + 1) = wholeP (l.take i) * q.1 ^ k * q.1 := by rw [Nat.pow_succ, Nat.mul_assoc]
      have l1 := Nat.le_trans (lc_mono b1) hW
      have l3 := Nat.le_trans (lc_mono b3) hW
      have kM := ct_NatMul (wholeP (l.take i) * q.1 ^ k) q.1 (by omega) (by omega)
      rw [← e1] at kM
      have l2 := Nat.le_trans (lc_mono b2) hW
      have kN := ct_NatBits (wholeP (l.take i) * q.1 ^ (k + 1)) (by omega)
      have hB : decide ((262144 : Int) < ((nbits (wholeP (l.take i) * q.1 ^ (k + 1)) : Nat) : Int)) = false := decide_eq_false (by have := nbits_lc l2; omega)
      have hA := lt_facts (k := k) (by omega)
      repeat first | refine Wp_seq ?_ | refine Wp_region tm_mixed ?_ | refine AW_move rfl rfl ?_ | refine AW_assign rfl rfl ?_ | refine AW_call rfl rfl (by first | exact kM | exact kN) ?_ | refine AW_quiet rfl (q_polyAt rfl rfl hp tu_nums ts_num) ?_ | refine AW_quiet rfl (q_recMag Tryz.underlying24 rfl rfl tz_mag1 rfl) ?_ | refine AW_quiet rfl (q_slot ty_mag rfl) ?_ | refine AW_quiet rfl (q_gtE rfl rfl hB) ?_ | refine AW_nil (fun (h : false = true) => by cases h) ?_ | refine Wp_block ?_ | refine Wp_skip ?_
      refine Wp_condF rfl ?_
      repeat first | refine Wp_region tm_mixed ?_ | refine AW_move rfl rfl ?_ | refine AW_assign rfl rfl ?_ | refine AW_quiet rfl (q_addE rfl rfl hA) ?_ | refine AW_nil (fun (h : false = true) => by cases h) ?_ | refine Wp_skip ?_
      exact ⟨k + 1, hkl, le_of ⟨rfl, rfl, rfl, rfl, rfl, rfl, rfl, rfl, trivial⟩ ⟨rfl, rfl, rfl, trivial⟩ rfl, by show q.2 - (k + 1) < q.2 - k; omega⟩
    · have hkl : k = q.2 := by have := of_decide_eq_false hd; omega
      subst hkl
      have hA := lt_facts (k := i) (by omega)
      repeat first | refine Wp_region tm_mixed ?_ | refine AW_move rfl rfl ?_ | refine AW_assign rfl rfl ?_ | refine AW_quiet rfl (q_addE rfl rfl hA) ?_ | refine AW_nil (fun (h : false = true) => by cases h) ?_ | refine Wp_exit ?_
      exact ⟨i + 1, hlt, le_of ⟨rfl, rfl, rfl, rfl, rfl, by dsimp only; rw [wholeP_next hq]; rfl, rfl, trivial⟩ ⟨rfl, rfl, rfl, trivial⟩ rfl, by show l.length - (i + 1) < l.length - i; omega⟩
  have hge : i = l.length := by have := of_decide_eq_false hc; omega
  subst hge
  rw [List.take_of_length_le (Nat.le_refl _)]
  repeat first | refine Wp_seq ?_ | refine Wp_region tm_mixed ?_ | refine AW_not rfl rfl ?_ | refine AW_call rfl rfl (by first | exact k5) ?_ | refine AW_fieldAddr rfl tf_mag rfl rfl ?_ | refine AW_load rfl ty_mag rfl rfl rfl rfl ?_ | refine AW_nil (fun (h : false = true) => by cases h) ?_ | refine Wp_exit ?_
  refine Wp_condF rfl ?_
  repeat first | refine Wp_seq ?_ | refine Wp_region tm_mixed ?_ | refine AW_move rfl rfl ?_ | refine AW_assign rfl rfl ?_ | refine AW_load rfl ty_num rfl rfl rfl rfl ?_ | refine AW_call rfl rfl (by first | exact kD | exact k6 | exact k7 | exact k8 | exact k9 | exact kC) ?_ | refine AW_quiet rfl (q_neE rfl rfl hC) ?_ | refine AW_fieldAddr rfl tf_mag rfl rfl ?_ | refine AW_load rfl ty_mag rfl rfl rfl rfl ?_ | refine AW_nil (fun (h : false = true) => by cases h) ?_ | refine AW_nil (fun (_ : true = true) => by kernel_rfl) ?_ | refine Wp_skip ?_
  refine Wp_condT rfl ?_
  repeat first | refine Wp_seq ?_ | refine Wp_region tm_mixed ?_ | refine AW_assign rfl rfl ?_ | refine AW_store ty_num rfl rfl rfl rfl rfl rfl rfl ?_ | refine AW_build rfl tb_num rfl ?_ | refine AW_nil (fun (h : false = true) => by cases h) ?_ | refine Wp_ret ?_
  exact ⟨.inr rfl, _, .cell _ _ _ _ _ _ _ _ _ _ _ ty_num rfl rfl rfl (.tmp _ _ _ _ rfl .nil), rfl⟩
set_option maxHeartbeats 4000000 in
set_option maxRecDepth 100000 in
theorem ct_rOrder_ok (a m : Int) (l : List (Nat × Nat)) (ha : lc a.natAbs ≤ 90) (hm : lc m.natAbs ≤ 90) (h0 : 0 < m) (h2 : ∀ q ∈ l, 2 ≤ q.1) (h64 : ∀ q ∈ l, q.2 ≤ 64) (hl : l.length ≤ 1000) (hW : lc (wholeP l) ≤ 1000) (hall : ∀ x ∈ [rawOf a, rawOf m] ++ psR l, rightInt x = true) (hg : gcdZ a m = 1) (hN : isZ (a % m) m (wholeP l) = true) :
    Ct Tryz.prog 23 [aZ a, aZ m, .val (.one (.st (polyP (psR l)))), .val (.one (.st (intsP (ksI l))))] (.tup [zZ (downs (isZ (a % m) m) l (wholeP l) : Int), aI 0]) := by
  refine ct_of_wp [.cell 8 24, .tmp 9] [(0, aZ a), (1, aZ m), (2, .val (.one (.st (polyP (psR l))))), (3, .val (.one (.st (intsP (ksI l)))))] 142 Tryz.func23 rfl rfl rfl rfl rfl rfl rfl rfl ?_
  intro G0 w0
  obtain ⟨T, hT⟩ : ∃ T, downs (isZ (a % m) m) l (wholeP l) = T := ⟨_, rfl⟩
  rw [hT]
  have k5 := ct_apart a.natAbs m.natAbs (by omega) (by omega)
  rw [gcd_nat, decide_eq_true hg] at k5
  have k6 := ct_modulo a m.natAbs (by omega) (by omega) (by omega)
  rw [show (m.natAbs : Int) = m by omega] at k6
  have lo : lc 1 ≤ 4096 := Nat.le_trans (lc_le.2 (show 1 < W64 ^ 1 by rw [W64_eq]; decide)) (by decide)
  have k7 := ct_rest 1 m.natAbs (by omega) (by omega) (by omega)
  have hr1 := Int.emod_nonneg a (show m ≠ 0 by omega)
  have hr2 := Int.emod_lt_of_pos a h0
  have lr : lc (a % m).natAbs ≤ 90 := Nat.le_trans (lc_mono (by omega)) hm
  have k8 := ct_NatTrim (wholeP l) (by omega)
  have k9 := ct_r21power (a % m).natAbs (wholeP l) m.natAbs (by omega) (by omega) (by omega) (by omega)
  have l8 : lc ((a % m).natAbs ^ wholeP l % m.natAbs) ≤ 90 := mod_lc (by omega) hm
  have l9 : lc (1 % m.natAbs) ≤ 90 := mod_lc (by omega) hm
  have kC := ct_NatCmp ((a % m).natAbs ^ wholeP l % m.natAbs) (1 % m.natAbs) (by omega) (by omega)
  have hC : (cmpN ((a % m).natAbs ^ wholeP l % m.natAbs) (1 % m.natAbs) != 0) = !isZ (a % m) m (wholeP l) := by rw [cmpN_not0, isZ_abs hr1 h0]
  rw [hN] at hC
  have k3 := ct_r21modulus (rawOf m)
  rw [muE_pos h0] at k3
  have hpl := psR_len l
  have k4 := ct_rlists (psR l) (ksI l) (by omega) (fun x hx => hall x (by simp only [List.mem_append]; exact .inr hx)) (fun x hx => by
    obtain ⟨q, _, rfl⟩ := List.mem_map.1 hx
    exact small_limbs _)
  rw [listE_ok h2 h64] at k4
  have kD := ct_r21one
  have kRA := ct_RightInt (rawOf a)
  have kRB := ct_RightInt (rawOf m)
  rw [hall (rawOf a) (by simp)] at kRA
  rw [hall (rawOf m) (by simp)] at kRB
  repeat first | refine Wp_seq ?_ | refine Wp_region tm_mixed ?_ | refine AW_assign rfl rfl ?_ | refine AW_alloc rfl tz_num ?_ | refine AW_box rfl rfl (row := true) rfl (fun h => by cases h) rfl ?_ | refine AW_nil (fun (h : false = true) => by cases h) ?_ | refine Wp_block ?_
  refine Wp_loop (fun i : Nat => ⟨[(2, .val (.one (.st (polyP (psR l))))), (3, .val (.one (.st (intsP (ksI l))))), (4, .val (.one (.ptr 0 0))), (5, .val (.one (.ptr 1 0))), (8, .val (.one (.ptr 2 0))), (10, .val (aI (i : Int)))],
    [(0, 24, [.b (rawOf a).1, .st (magP (rawOf a).2)]), (1, 24, [.b (rawOf m).1, .st (magP (rawOf m).2)]), (2, 24, [.b false, .st (magP [])])], 3⟩) (fun i => i ≤ (psR l).length) (fun i => (psR l).length - i) 0 (Nat.zero_le _) (le_of ⟨rfl, rfl, rfl, rfl, rfl, rfl, trivial⟩ ⟨rfl, rfl, rfl, trivial⟩ rfl) ?_
  intro i hi
  repeat first | refine Wp_seq ?_ | refine Wp_region tm_mixed ?_ | refine AW_move rfl rfl ?_ | refine AW_quiet rfl (q_lenPoly rfl rfl tu_nums) ?_ | refine AW_quiet rfl (q_lt rfl rfl) ?_ | refine AW_nil (fun (h : false = true) => by cases h) ?_
  refine Wp_cond rfl (fun hc => ?_) (fun hc => ?_)
  · have hlt : i < (psR l).length := by have := of_decide_eq_true hc; omega
    obtain ⟨x, hx⟩ : ∃ x, (psR l)[i]? = some x := ⟨_, List.getElem?_eq_getElem hlt⟩
    have kR := ct_RightInt x
    rw [hall x (by simp only [List.mem_append]; exact .inr (List.mem_of_getElem? hx))] at kR
    have hA := lt_facts (k := i) (by omega)
    repeat first | refine Wp_seq ?_ | refine Wp_region tm_mixed ?_ | refine AW_move rfl rfl ?_ | refine AW_not rfl rfl ?_ | refine AW_call rfl rfl (by first | exact kR) ?_ | refine AW_quiet rfl (q_polyAt rfl rfl hx tu_nums ts_num) ?_ | refine AW_quiet rfl (q_loadP rfl ty_num) ?_ | refine AW_nil (fun (h : false = true) => by cases h) ?_ | refine Wp_block ?_ | refine Wp_skip ?_
    refine Wp_condF rfl ?_
    repeat first | refine Wp_region tm_mixed ?_ | refine AW_move rfl rfl ?_ | refine AW_assign rfl rfl ?_ | refine AW_quiet rfl (q_addE rfl rfl hA) ?_ | refine AW_nil (fun (h : false = true) => by cases h) ?_ | refine Wp_skip ?_
    exact ⟨i + 1, hlt, le_of ⟨rfl, rfl, rfl, rfl, rfl, rfl, trivial⟩ ⟨rfl, rfl, rfl, trivial⟩ rfl, by show (psR l).length - (i + 1) < (psR l).length - i; omega⟩
  repeat first | refine Wp_seq ?_ | refine Wp_region tm_mixed ?_ | refine AW_move rfl rfl ?_ | refine AW_load rfl ty_num rfl rfl rfl rfl ?_ | refine AW_not rfl rfl ?_ | refine AW_call rfl rfl (by first | exact kRA | exact kRB) ?_ | refine AW_pickF rfl rfl rfl ?_ | refine AW_notg rfl rfl rfl rfl rfl ?_ | refine AW_loadg rfl rfl rfl rfl ty_num rfl rfl rfl rfl ?_ | refine AW_callg rfl rfl rfl rfl rfl (by first | exact kRA | exact kRB) ?_ | refine AW_nil (fun (h : false = true) => by cases h) ?_ | refine Wp_exit ?_
  refine Wp_condF rfl ?_
  repeat first | refine Wp_seq ?_ | refine Wp_region tm_mixed ?_ | refine AW_move rfl rfl ?_ | refine AW_assign rfl rfl ?_ | refine AW_load rfl ty_num rfl rfl rfl rfl ?_ | refine AW_call rfl rfl (by first | exact k3) ?_ | refine AW_eq rfl rfl rfl ?_ | refine AW_nil (fun (h : false = true) => by cases h) ?_ | refine Wp_skip ?_
  refine Wp_condT rfl ?_
  repeat first | refine Wp_seq ?_ | refine Wp_region tm_mixed ?_ | refine AW_move rfl rfl ?_ | refine AW_assign rfl rfl ?_ | refine AW_call rfl rfl (by first | exact k4) ?_ | refine AW_ne rfl rfl rfl ?_ | refine AW_nil (fun (h : false = true) => by cases h) ?_
  refine Wp_condF rfl ?_
  repeat first | refine Wp_seq ?_ | refine Wp_region tm_mixed ?_ | refine AW_assign rfl rfl ?_ | refine AW_call rfl rfl (by first | exact kD) ?_ | refine AW_nil (fun (h : false = true) => by cases h) ?_ | refine Wp_block ?_ | refine Wp_skip ?_
  refine Wp_loop (fun i : Nat => ⟨[(2, .val (.one (.st (polyP (psR l))))), (3, .val (.one (.st (intsP (ksI l))))), (4, .val (.one (.ptr 0 0))), (5, .val (.one (.ptr 1 0))), (8, .val (.one (.ptr 2 0))), (12, aN (wholeP (l.take i))), (13, .val (aI (i : Int)))],
    [(0, 24, [.b (rawOf a).1, .st (magP (rawOf a).2)]), (1, 24, [.b (rawOf m).1, .st (magP (rawOf m).2)]), (2, 24, [.b false, .st (magP [])])], 3⟩) (fun i => i ≤ l.length) (fun i => l.length - i) 0 (Nat.zero_le _) (le_of ⟨rfl, rfl, rfl, rfl, rfl, rfl, rfl, trivial⟩ ⟨rfl, rfl, rfl, trivial⟩ rfl) ?_
  intro i hi
  repeat first | refine Wp_seq ?_ | refine Wp_region tm_mixed ?_ | refine AW_move rfl rfl ?_ | refine AW_quiet rfl (q_lenPoly rfl rfl tu_nums) ?_ | refine AW_quiet rfl (q_lt rfl rfl) ?_ | refine AW_nil (fun (h : false = true) => by cases h) ?_
  refine Wp_cond rfl (fun hc => ?_) (fun hc => ?_)
  · have hlt : i < l.length := by have := of_decide_eq_true hc; omega
    obtain ⟨q, hq⟩ : ∃ q, l[i]? = some q := ⟨_, List.getElem?_eq_getElem hlt⟩
    have hp := psR_at hq
    have hk := ksI_at hq
    have hq64 := h64 q (List.mem_of_getElem? hq)
    repeat first | refine Wp_seq ?_ | refine Wp_region tm_mixed ?_ | refine AW_assign rfl rfl ?_ | refine AW_nil (fun (h : false = true) => by cases h) ?_ | refine Wp_block ?_ | refine Wp_skip ?_
    refine Wp_loop (fun k : Nat => ⟨[(2, .val (.one (.st (polyP (psR l))))), (3, .val (.one (.st (intsP (ksI l))))), (4, .val (.one (.ptr 0 0))), (5, .val (.one (.ptr 1 0))), (8, .val (.one (.ptr 2 0))), (12, aN (wholeP (l.take i) * q.1 ^ k)), (13, .val (aI (i : Int))), (14, .val (aI (k : Int)))],
      [(0, 24, [.b (rawOf a).1, .st (magP (rawOf a).2)]), (1, 24, [.b (rawOf m).1, .st (magP (rawOf m).2)]), (2, 24, [.b false, .st (magP [])])], 3⟩) (fun k => k ≤ q.2) (fun k => q.2 - k) 0 (Nat.zero_le _)
      (le_of ⟨rfl, rfl, rfl, rfl, rfl, by dsimp only; rw [Nat.pow_zero, Nat.mul_one]; rfl, rfl, rfl, trivial⟩ ⟨rfl, rfl, rfl, trivial⟩ rfl) ?_
    intro k hk2
    repeat first | refine Wp_seq ?_ | refine Wp_region tm_mixed ?_ | refine AW_move rfl rfl ?_ | refine AW_quiet rfl (q_intAt rfl rfl hk tu_ints ts_int) ?_ | refine AW_quiet rfl (q_intLoad rfl ty_int) ?_ | refine AW_quiet rfl (q_lt rfl rfl) ?_ | refine AW_nil (fun (h : false = true) => by cases h) ?_
    refine Wp_cond rfl (fun hd => ?_) (fun hd => ?_)
    · have hkl : k < q.2 := by have := of_decide_eq_true hd; omega
      have b1 := wholeP_part (fun q hq => by have := h2 q hq; omega) hq (k := k) (by omega)
      have b2 := wholeP_part (fun q hq => by have := h2 q hq; omega) hq (k := k + 1) (by omega)
      have b3 := wholeP_prime (fun q hq => by have := h2 q hq; omega) hq (by omega)
      have e1 : wholeP (l.take i) * q.1 ^ (k + 1) = wholeP (l.take i) * q.1 ^ k * q.1 := by rw [Nat.pow_succ, Nat.mul_assoc]
      have l1 := Nat.le_trans (lc_mono b1) hW
      have l3 := Nat.le_trans (lc_mono b3) hW
      have kM := ct_NatMul (wholeP (l.take i) * q.1 ^ k) q.1 (by omega) (by omega)
      rw [← e1] at kM
      have l2 := Nat.le_trans (lc_mono b2) hW
      have kN := ct_NatBits (wholeP (l.take i) * q.1 ^ (k + 1)) (by omega)
      have hB : decide ((262144 : Int) < ((nbits (wholeP (l.take i) * q.1 ^ (k + 1)) : Nat) : Int)) = false := decide_eq_false (by have := nbits_lc l2; omega)
      have hA := lt_facts (k := k) (by omega)
      repeat first | refine Wp_seq ?_ | refine Wp_region tm_mixed ?_ | refine AW_move rfl rfl ?_ | refine AW_assign rfl rfl ?_ | refine AW_call rfl rfl (by first | exact kM | exact kN) ?_ | refine AW_quiet rfl (q_polyAt rfl rfl hp tu_nums ts_num) ?_ | refine AW_quiet rfl (q_recMag Tryz.underlying24 rfl rfl tz_mag1 rfl) ?_ | refine AW_quiet rfl (q_slot ty_mag rfl) ?_ | refine AW_quiet rfl (q_gtE rfl rfl hB) ?_ | refine AW_nil (fun (h : false = true) => by cases h) ?_ | refine Wp_block ?_ | refine Wp_skip ?_
      refine Wp_condF rfl ?_
      repeat first | refine Wp_region tm_mixed ?_ | refine AW_move rfl rfl ?_ | refine AW_assign rfl rfl ?_ | refine AW_quiet rfl (q_addE rfl rfl hA) ?_ | refine AW_nil (fun (h : false = true) => by cases h) ?_ | refine Wp_skip ?_
      exact ⟨k + 1, hkl, le_of ⟨rfl, rfl, rfl, rfl, rfl, rfl, rfl, rfl, trivial⟩ ⟨rfl, rfl, rfl, trivial⟩ rfl, by show q.2 - (k + 1) < q.2 - k; omega⟩
    · have hkl : k = q.2 := by have := of_decide_eq_false hd; omega
      subst hkl
      have hA := lt_facts (k := i) (by omega)
      repeat first | refine Wp_region tm_mixed ?_ | refine AW_move rfl rfl ?_ | refine AW_assign rfl rfl ?_ | refine AW_quiet rfl (q_addE rfl rfl hA) ?_ | refine AW_nil (fun (h : false = true) => by cases h) ?_ | refine Wp_exit ?_
      exact ⟨i + 1, hlt, le_of ⟨rfl, rfl, rfl, rfl, rfl, by dsimp only; rw [wholeP_next hq]; rfl, rfl, trivial⟩ ⟨rfl, rfl, rfl, trivial⟩ rfl, by show l.length - (i + 1) < l.length - i; omega⟩
  have hge : i = l.length := by have := of_decide_eq_false hc; omega
  subst hge
  rw [List.take_of_length_le (Nat.le_refl _)]
  repeat first | refine Wp_seq ?_ | refine Wp_region tm_mixed ?_ | refine AW_not rfl rfl ?_ | refine AW_call rfl rfl (by first | exact k5) ?_ | refine AW_fieldAddr rfl tf_mag rfl rfl ?_ | refine AW_load rfl ty_mag rfl rfl rfl rfl ?_ | refine AW_nil (fun (h : false = true) => by cases h) ?_ | refine Wp_exit ?_
  refine Wp_condF rfl ?_
  repeat first | refine Wp_seq ?_ | refine Wp_region tm_mixed ?_ | refine AW_move rfl rfl ?_ | refine AW_assign rfl rfl ?_ | refine AW_load rfl ty_num rfl rfl rfl rfl ?_ | refine AW_call rfl rfl (by first | exact kD | exact k6 | exact k7 | exact k8 | exact k9 | exact kC) ?_ | refine AW_quiet rfl (q_neE rfl rfl hC) ?_ | refine AW_fieldAddr rfl tf_mag rfl rfl ?_ | refine AW_load rfl ty_mag rfl rfl rfl rfl ?_ | refine AW_nil (fun (h : false = true) => by cases h) ?_ | refine AW_nil (fun (_ : true = true) => by kernel_rfl) ?_ | refine Wp_skip ?_
  refine Wp_condF rfl ?_
  repeat first | refine Wp_seq ?_ | refine Wp_region tm_mixed ?_ | refine AW_assign rfl rfl ?_ | refine AW_nil (fun (h : false = true) => by cases h) ?_ | refine Wp_block ?_ | refine Wp_skip ?_
  refine Wp_loop (fun p : Nat × Nat => ⟨[(2, .val (.one (.st (polyP (psR l))))), (3, .val (.one (.st (intsP (ksI l))))), (5, .val (.one (.ptr 1 0))), (8, .val (.one (.ptr 2 0))), (12, aN p.2), (15, aN (a % m).natAbs), (16, aN (1 % m.natAbs)), (17, .val (aI (p.1 : Int)))],
    [(1, 24, [.b (rawOf m).1, .st (magP (rawOf m).2)]), (2, 24, [.b false, .st (magP [])])], 3⟩) (fun p => p.1 ≤ l.length ∧ p.2 ≤ wholeP l ∧ downs (isZ (a % m) m) (l.drop p.1) p.2 = T) (fun p => l.length - p.1) (0, wholeP l) ⟨Nat.zero_le _, Nat.le_refl _, hT⟩ (le_of ⟨rfl, rfl, rfl, rfl, rfl, rfl, rfl, rfl, trivial⟩ ⟨rfl, rfl, trivial⟩ rfl) ?_
  rintro ⟨i, n⟩ ⟨hi, hn, hd⟩
  dsimp only at hi hn hd ⊢
  repeat first | refine Wp_seq ?_ | refine Wp_region tm_mixed ?_ | refine AW_move rfl rfl ?_ | refine AW_quiet rfl (q_lenPoly rfl rfl tu_nums) ?_ | refine AW_quiet rfl (q_lt rfl rfl) ?_ | refine AW_nil (fun (h : false = true) => by cases h) ?_
  refine Wp_cond rfl (fun hc => ?_) (fun hc => ?_)
  · have hlt : i < l.length := by have := of_decide_eq_true hc; omega
    obtain ⟨q, hq⟩ : ∃ q, l[i]? = some q := ⟨_, List.getElem?_eq_getElem hlt⟩
    have hp := psR_at hq
    have hk := ksI_at hq
    have hq64 := h64 q (List.mem_of_getElem? hq)
    have hq2 := h2 q (List.mem_of_getElem? hq)
    have hA := lt_facts (k := i) (by omega)
    rw [downs_next _ hq] at hd
    repeat first | refine Wp_seq ?_ | refine Wp_region tm_mixed ?_ | refine AW_assign rfl rfl ?_ | refine AW_nil (fun (h : false = true) => by cases h) ?_ | refine Wp_block ?_ | refine Wp_skip ?_
    refine Wp_loop (fun p : Nat × Nat => ⟨[(2, .val (.one (.st (polyP (psR l))))), (3, .val (.one (.st (intsP (ksI l))))), (5, .val (.one (.ptr 1 0))), (8, .val (.one (.ptr 2 0))), (12, aN p.2), (15, aN (a % m).natAbs), (16, aN (1 % m.natAbs)), (17, .val (aI (i : Int))), (18, .val (aI (p.1 : Int)))],
      [(1, 24, [.b (rawOf m).1, .st (magP (rawOf m).2)]), (2, 24, [.b false, .st (magP [])])], 3⟩) (fun p => p.1 ≤ q.2 ∧ p.2 ≤ wholeP l ∧ downs (isZ (a % m) m) (l.drop (i + 1)) (down1 (isZ (a % m) m) q.1 (q.2 - p.1) p.2) = T) (fun p => q.2 - p.1) (0, n) ⟨Nat.zero_le _, hn, hd⟩ (le_of ⟨rfl, rfl, rfl, rfl, rfl, rfl, rfl, rfl, rfl, trivial⟩ ⟨rfl, rfl, trivial⟩ rfl) ?_
    rintro ⟨k, n⟩ ⟨hk2, hn, hd⟩
    dsimp only at hk2 hn hd ⊢
    repeat first | refine Wp_seq ?_ | refine Wp_region tm_mixed ?_ | refine AW_move rfl rfl ?_ | refine AW_quiet rfl (q_intAt rfl rfl hk tu_ints ts_int) ?_ | refine AW_quiet rfl (q_intLoad rfl ty_int) ?_ | refine AW_quiet rfl (q_lt rfl rfl) ?_ | refine AW_nil (fun (h : false = true) => by cases h) ?_
    refine Wp_cond rfl (fun hf => ?_) (fun hf => ?_)
    · have hkl : k < q.2 := by have := of_decide_eq_true hf; omega
      have b3 := wholeP_prime (fun q hq => by have := h2 q hq; omega) hq (by omega)
      have ln : lc n ≤ 1000 := Nat.le_trans (lc_mono hn) hW
      have lq : lc q.1 ≤ 1000 := Nat.le_trans (lc_mono b3) hW
      have kF := ct_NatDiv n q.1 (by omega) (by omega) (by omega)
      have hdn : n / q.1 ≤ n := Nat.div_le_self _ _
      have ld := Nat.le_trans (lc_mono hdn) ln
      have kT := ct_NatTrim (n / q.1) (by omega)
      have kP := ct_r21power (a % m).natAbs (n / q.1) m.natAbs (by omega) (by omega) (by omega) (by omega)
      have l7 : lc ((a % m).natAbs ^ (n / q.1) % m.natAbs) ≤ 90 := mod_lc (by omega) hm
      have kK := ct_NatCmp ((a % m).natAbs ^ (n / q.1) % m.natAbs) (1 % m.natAbs) (by omega) (by omega)
      have hK : (cmpN ((a % m).natAbs ^ (n / q.1) % m.natAbs) (1 % m.natAbs) != 0) = !isZ (a % m) m (n / q.1) := by rw [cmpN_not0, isZ_abs hr1 h0]
      have es : q.2 - k = (q.2 - (k + 1)) + 1 := by omega
      rw [es] at hd
      simp only [down1] at hd
      have hB := lt_facts (k := k) (by omega)
      cases hz : isZ (a % m) m (n / q.1) with
      | true =>
        rw [hz] at hK hd
        rw [if_pos rfl] at hd
        repeat first | refine Wp_seq ?_ | refine Wp_region tm_mixed ?_ | refine AW_move rfl rfl ?_ | refine AW_assign rfl rfl ?_ | refine AW_extract rfl rfl rfl ?_ | refine AW_call rfl rfl (by first | exact kF | exact kT | exact kP | exact kK) ?_ | refine AW_quiet rfl (q_polyAt rfl rfl hp tu_nums ts_num) ?_ | refine AW_quiet rfl (q_recMag Tryz.underlying24 rfl rfl tz_mag1 rfl) ?_ | refine AW_quiet rfl (q_slot ty_mag rfl) ?_ | refine AW_quiet rfl (q_neE rfl rfl hK) ?_ | refine AW_fieldAddr rfl tf_mag rfl rfl ?_ | refine AW_load rfl ty_mag rfl rfl rfl rfl ?_ | refine AW_nil (fun (h : false = true) => by cases h) ?_ | refine Wp_block ?_ | refine Wp_skip ?_
        refine Wp_condF rfl ?_
        repeat first | refine Wp_region tm_mixed ?_ | refine AW_move rfl rfl ?_ | refine AW_assign rfl rfl ?_ | refine AW_quiet rfl (q_addE rfl rfl hB) ?_ | refine AW_nil (fun (h : false = true) => by cases h) ?_ | refine Wp_skip ?_
        exact ⟨(k + 1, n / q.1), ⟨hkl, by show n / q.1 ≤ wholeP l; omega, hd⟩, le_of ⟨rfl, rfl, rfl, rfl, rfl, rfl, rfl, rfl, rfl, trivial⟩ ⟨rfl, rfl, trivial⟩ rfl, by show q.2 - (k + 1) < q.2 - k; omega⟩
      | false =>
        rw [hz] at hK hd
        rw [if_neg (by decide)] at hd
        repeat first | refine Wp_seq ?_ | refine Wp_region tm_mixed ?_ | refine AW_move rfl rfl ?_ | refine AW_assign rfl rfl ?_ | refine AW_extract rfl rfl rfl ?_ | refine AW_call rfl rfl (by first | exact kF | exact kT | exact kP | exact kK) ?_ | refine AW_quiet rfl (q_polyAt rfl rfl hp tu_nums ts_num) ?_ | refine AW_quiet rfl (q_recMag Tryz.underlying24 rfl rfl tz_mag1 rfl) ?_ | refine AW_quiet rfl (q_slot ty_mag rfl) ?_ | refine AW_quiet rfl (q_neE rfl rfl hK) ?_ | refine AW_fieldAddr rfl tf_mag rfl rfl ?_ | refine AW_load rfl ty_mag rfl rfl rfl rfl ?_ | refine AW_nil (fun (h : false = true) => by cases h) ?_ | refine Wp_block ?_ | refine Wp_skip ?_
        refine Wp_condT rfl ?_
        repeat first | refine Wp_region tm_mixed ?_ | refine AW_move rfl rfl ?_ | refine AW_assign rfl rfl ?_ | refine AW_quiet rfl (q_addE rfl rfl hA) ?_ | refine AW_nil (fun (h : false = true) => by cases h) ?_ | refine Wp_exit ?_
        exact ⟨(i + 1, n), ⟨hlt, hn, hd⟩, le_of ⟨rfl, rfl, rfl, rfl, rfl, rfl, rfl, rfl, trivial⟩ ⟨rfl, rfl, trivial⟩ rfl, by show l.length - (i + 1) < l.length - i; omega⟩
    · have hkl : k = q.2 := by have := of_decide_eq_false hf; omega
      subst hkl
      rw [Nat.sub_self] at hd
      repeat first | refine Wp_region tm_mixed ?_ | refine AW_move rfl rfl ?_ | refine AW_assign rfl rfl ?_ | refine AW_quiet rfl (q_addE rfl rfl hA) ?_ | refine AW_nil (fun (h : false = true) => by cases h) ?_ | refine Wp_exit ?_
      exact ⟨(i + 1, n), ⟨hlt, hn, hd⟩, le_of ⟨rfl, rfl, rfl, rfl, rfl, rfl, rfl, rfl, trivial⟩ ⟨rfl, rfl, trivial⟩ rfl, by show l.length - (i + 1) < l.length - i; omega⟩
  · have hge : i = l.length := by have := of_decide_eq_false hc; omega
    subst hge
    rw [List.drop_eq_nil_of_le (Nat.le_refl _)] at hd
    have hd : n = T := hd
    subst hd
    have ln : lc n ≤ 1000 := Nat.le_trans (lc_mono hn) hW
    have kT := ct_told21 n (by omega)
    repeat first | refine Wp_seq ?_ | refine Wp_region tm_mixed ?_ | refine AW_move rfl rfl ?_ | refine AW_assign rfl rfl ?_ | refine AW_store ty_num rfl rfl rfl rfl rfl rfl rfl ?_ | refine AW_call rfl rfl (by first | exact kT) ?_ | refine AW_nil (fun (h : false = true) => by cases h) ?_ | refine Wp_exit ?_ | refine Wp_ret ?_
    exact ⟨.inr rfl, _, .cell _ _ _ _ _ _ _ _ _ _ _ ty_num rfl rfl rfl (.tmp _ _ _ _ rfl .nil), rfl⟩
end Go.Proofs.YtjbagikfogejnaaGreatDoor
/- The law PowerOrders. -/
namespace Go.Proofs.YtjbagikfogejnaaGreatDoor
open Go.RowKit Go.Deep
/-- Are lists too long to be looked at? -/
def longL : List Raw → List Int → Int → Int → Bool
  | p :: ps, k :: ks, b, s => if k < 0 ∨ 64 < k then false else longL ps ks (b + 64 * (p.2.length : Int) * k) (s + k)
  | [], [], b, s => decide (1600 < b) || decide (24 < s)
  | [], _ :: _, _, _ => false
  | _ :: _, [], _, _ => false
def longB (ps : List Raw) (ks : List Int) : Bool := if 40 < ps.length ∨ 40 < ks.length then true else longL ps ks 0 0
theorem longL_at {ps : List Raw} {ks : List Int} {i : Nat} {p : Raw} {k : Int} (hp : ps[i]? = some p) (hk : ks[i]? = some k) (b s : Int) :
    longL (ps.drop i) (ks.drop i) b s = if k < 0 ∨ 64 < k then false else longL (ps.drop (i + 1)) (ks.drop (i + 1)) (b + 64 * (p.2.length : Int) * k) (s + k) := by
  obtain ⟨h1, rfl⟩ := List.getElem?_eq_some_iff.1 hp
  obtain ⟨h2, rfl⟩ := List.getElem?_eq_some_iff.1 hk
  rw [List.drop_eq_getElem_cons h1, List.drop_eq_getElem_cons h2]
  rfl
theorem lc_pow {p : Nat} : ∀ k : Nat, 1 ≤ k → lc (p ^ k) ≤ k * lc p
  | 0, h => by omega
  | 1, _ => by rw [Nat.pow_one, Nat.one_mul]; exact Nat.le_refl _
  | k + 2, _ => by
    have h1 := lc_pow (p := p) (k + 1) (by omega)
    have h2 := lc_mul (p ^ (k + 1)) p
    rw [Nat.pow_succ, Nat.succ_mul]
    omega
theorem whole_long : ∀ (l : List (Nat × Nat)) (b s : Int), 0 ≤ b → (∀ q ∈ l, q.2 ≤ 64) → longL (psR l) (ksI l) b s = false → b + 64 * (lc (wholeP l) : Int) ≤ 1664
  | [], b, s, hb, _, h => by
    have h1 : (decide ((1600 : Int) < b) || decide ((24 : Int) < s)) = false := h
    rw [Bool.or_eq_false_iff] at h1
    have h2 := of_decide_eq_false h1.1
    have h3 : lc (wholeP []) ≤ 1 := lc_le.2 (show 1 < W64 ^ 1 by rw [W64_eq]; decide)
    omega
  | q :: l, b, s, hb, h64, h => by
    have hq := h64 q (by simp)
    have h1 : (if ((q.2 : Nat) : Int) < 0 ∨ 64 < ((q.2 : Nat) : Int) then false else longL (psR l) (ksI l) (b + 64 * ((rawOf (q.1 : Int)).2.length : Int) * (q.2 : Int)) (s + (q.2 : Int))) = false := h
    rw [if_neg (by omega), len_raw, Int.natAbs_natCast] at h1
    have h0 : 0 ≤ 64 * (lc q.1 : Int) * (q.2 : Int) := Int.mul_nonneg (by omega) (by omega)
    have h2 := whole_long l _ _ (by omega) (fun x hx => h64 x (by simp [hx])) h1
    have h3 : lc (wholeP (q :: l)) ≤ q.2 * lc q.1 + lc (wholeP l) := by
      show lc (q.1 ^ q.2 * wholeP l) ≤ _
      by_cases hz : q.2 = 0
      · rw [hz, Nat.pow_zero, Nat.one_mul, Nat.zero_mul, Nat.zero_add]; exact Nat.le_refl _
      · have h4 := lc_pow (p := q.1) q.2 (by omega)
        have h5 := lc_mul (q.1 ^ q.2) (wholeP l)
        omega
    have h6 : 64 * (lc q.1 : Int) * (q.2 : Int) = 64 * ((q.2 * lc q.1 : Nat) : Int) := by rw [Int.natCast_mul, Int.mul_assoc, Int.mul_comm (lc q.1 : Int)]
    omega
/-- Lists of which nothing is bad are numbers. -/
theorem lists_of : ∀ (ps : List Raw) (ks : List Int), ps.length = ks.length → (∀ x ∈ ps, rightInt x = true) → (∀ x ∈ ps, Small x.2) → (ps.zip ks).any (fun q => badL q.1 q.2) = false → ∃ l : List (Nat × Nat), ps = psR l ∧ ks = ksI l ∧ (∀ q ∈ l, 2 ≤ q.1) ∧ ∀ q ∈ l, q.2 ≤ 64
  | [], [], _, _, _, _ => ⟨[], rfl, rfl, fun _ h => by simp at h, fun _ h => by simp at h⟩
  | [], _ :: _, h, _, _, _ => by simp at h
  | _ :: _, [], h, _, _, _ => by simp at h
  | (b, xs) :: ps, k :: ks, hl, hr, hs, hb => by
    rw [List.zip_cons_cons, List.any_cons, Bool.or_eq_false_iff] at hb
    obtain ⟨l, rfl, rfl, h2, h6⟩ := lists_of ps ks (by simpa using hl) (fun x hx => hr x (by simp [hx])) (fun x hx => hs x (by simp [hx])) hb.2
    have hb1 := hb.1
    have hbf : b = false := by
      cases b with
      | false => rfl
      | true => exact absurd hb1 (by show ¬ badL (true, xs) k = false; unfold badL; simp)
    subst hbf
    obtain ⟨n, rfl, ln⟩ := right_nat (hs (false, xs) (by simp)) (hr (false, xs) (by simp))
    have hn : 2 ≤ n := by
      rcases Nat.lt_or_ge n 2 with h | h
      · rw [show badL (false, limbs n) k = true from badL_small h] at hb1; cases hb1
      · exact h
    have hk : 0 ≤ k ∧ k ≤ 64 := by
      have hb1 : (false || (((limbs n).length : Int) == 0) || decide (((false, limbs n) : Raw) = (false, [1])) || decide (k < 0) || decide (64 < k)) = false := hb1
      simp only [Bool.or_eq_false_iff] at hb1
      have h1 := of_decide_eq_false hb1.2
      have h2 := of_decide_eq_false hb1.1.2
      omega
    refine ⟨(n, k.toNat) :: l, ?_, ?_, fun q hq => ?_, fun q hq => ?_⟩
    · show (false, limbs n) :: psR l = rawOf ((n, k.toNat).1 : Int) :: psR l
      rw [nat_raw]
    · show k :: ksI l = (((n, k.toNat).2 : Nat) : Int) :: ksI l
      rw [show (((n, k.toNat).2 : Nat) : Int) = k by show ((k.toNat : Nat) : Int) = k; omega]
    · rcases List.mem_cons.1 hq with rfl | hq
      · exact hn
      · exact h2 q hq
    · rcases List.mem_cons.1 hq with rfl | hq
      · show k.toNat ≤ 64; omega
      · exact h6 q hq
/-- Both tell one thing: Order. -/
theorem order_both (A B : Raw) (PS : List Raw) (KS : List Int) (hA : Small A.2) (hB : Small B.2) (hPS : ∀ x ∈ PS, Small x.2) (lA : A.2.length ≤ 4) (lB : B.2.length ≤ 4) (hlong : longB PS KS = false) :
    ∃ (R : Raw) (e : Int), R.2.length ≤ 1000000 ∧ Ct Tryz.prog 22 [aNum A, aNum B, .val (.one (.st (polyP PS))), .val (.one (.st (intsP KS)))] (.tup [aInt R, aI e]) ∧ Ct Tryz.prog 23 [aNum A, aNum B, .val (.one (.st (polyP PS))), .val (.one (.st (intsP KS)))] (.tup [aInt R, aI e]) := by
  have h40 : ¬ (40 < PS.length ∨ 40 < KS.length) := fun h => by unfold longB at hlong; rw [if_pos h] at hlong; cases hlong
  have hL0 : longL PS KS 0 0 = false := by unfold longB at hlong; rwa [if_neg h40] at hlong
  have hlp : PS.length ≤ 1000 := by omega
  by_cases h : ([A, B] ++ PS).all rightInt = true
  · have hall : ∀ x ∈ [A, B] ++ PS, rightInt x = true := List.all_eq_true.1 h
    by_cases hm : (muE B != 0) = true
    · exact ⟨(false, []), muE B, by simp, ct_Order_mod A B PS KS hlp hall _ rfl hm, ct_rOrder_mod A B PS KS hlp hall _ rfl hm⟩
    · have hm : muE B = 0 := by simpa using hm
      by_cases hls : (listE PS KS != 0) = true
      · exact ⟨(false, []), listE PS KS, by simp, ct_Order_lists A B PS KS hlp hall hm _ rfl hls, ct_rOrder_lists A B PS KS hlp hall hPS hm _ rfl hls⟩
      · have hls : listE PS KS = 0 := by simpa using hls
        have hlen : PS.length = KS.length := by
          by_cases e : PS.length = KS.length
          · exact e
          · unfold listE at hls; rw [if_neg e] at hls; exact absurd hls (by decide)
        have hbad : (PS.zip KS).any (fun q => badL q.1 q.2) = false := by
          unfold listE at hls
          rw [if_pos hlen] at hls
          cases hb : (PS.zip KS).any (fun q => badL q.1 q.2) with
          | false => rfl
          | true => rw [hb] at hls; exact absurd hls (by decide)
        obtain ⟨l, rfl, rfl, h2, h6⟩ := lists_of PS KS hlen (fun x hx => hall x (by simp [hx])) hPS hbad
        obtain ⟨a, rfl, la⟩ := right_of_raw hA (hall A (by simp))
        obtain ⟨m, rfl, lm⟩ := right_of_raw hB (hall B (by simp))
        have h0 : 0 < m := by
          rcases muE_cases m with h0 | h0
          · exact h0
          · rw [hm] at h0; cases h0
        have hW : lc (wholeP l) ≤ 1000 := by have := whole_long l 0 0 (by omega) h6 hL0; omega
        have hl : l.length ≤ 1000 := by rw [psR_len] at hlp; exact hlp
        by_cases hg : gcdZ a m = 1
        · cases hN : isZ (a % m) m (wholeP l) with
          | true =>
            have hd := downs_le (isZ (a % m) m) l (wholeP l)
            exact ⟨rawOf (downs (isZ (a % m) m) l (wholeP l) : Int), 0, by rw [len_raw, Int.natAbs_natCast]; have := lc_mono hd; omega, ct_Order_ok a m l (by omega) (by omega) h0 h2 h6 hl hW hall hg hN, ct_rOrder_ok a m l (by omega) (by omega) h0 h2 h6 hl hW hall hg hN⟩
          | false => exact ⟨(false, []), 2, by simp, ct_Order_not a m l (by omega) (by omega) h0 h2 h6 hl hW hall hg hN, ct_rOrder_not a m l (by omega) (by omega) h0 h2 h6 hl hW hall hg hN⟩
        · exact ⟨(false, []), 310, by simp, ct_Order_none a m l (by omega) (by omega) h0 h2 h6 hl hW hall hg, ct_rOrder_none a m l (by omega) (by omega) h0 h2 h6 hl hW hall hg⟩
  · have h : ([A, B] ++ PS).all rightInt = false := Bool.eq_false_iff.2 h
    exact ⟨(false, []), 2, by simp, ct_Order_bad A B PS KS hlp h, ct_rOrder_bad A B PS KS hlp h⟩
set_option maxHeartbeats 2000000 in
set_option maxRecDepth 100000 in
theorem ct_long21 (ps : List Raw) (ks : List Int) (hb : ∀ x ∈ ps, x.2.length ≤ 17592186044416) : Ct Tryz.prog 21 [.val (.one (.st (polyP ps))), .val (.one (.st (intsP ks)))] (.val (aB (longB ps ks))) := by
  refine ct_of_wp [.tmp 4] [(0, .val (.one (.st (polyP ps)))), (1, .val (.one (.st (intsP ks))))] 73 Tryz.func21 rfl rfl rfl rfl rfl rfl rfl rfl ?_
  intro G0 w0
  have kO := ct_r21one
  by_cases h1 : (40 : Int) < (ps.length : Int)
  · have h1' : decide ((40 : Int) < (ps.length : Int)) = true := decide_eq_true h1
    have e : longB ps ks = true := by unfold longB; rw [if_pos (.inl (by omega))]
    rw [e]
    repeat first | refine Wp_seq ?_ | refine Wp_region tm_mixed ?_ | refine AW_move rfl rfl ?_ | refine AW_assign rfl rfl ?_ | refine AW_quiet rfl (q_gtE rfl rfl h1') ?_ | refine AW_quiet rfl (q_lenPoly rfl rfl tu_nums) ?_ | refine AW_pickT rfl rfl rfl ?_ | refine AW_skip rfl rfl rfl rfl ?_ | refine AW_nil (fun (h : false = true) => by cases h) ?_
    refine Wp_condT rfl ?_
    repeat first | refine Wp_seq ?_ | refine Wp_region tm_mixed ?_ | refine AW_assign rfl rfl ?_ | refine AW_nil (fun (h : false = true) => by cases h) ?_ | refine Wp_ret ?_
    exact ⟨.inr rfl, _, .tmp _ _ _ _ rfl .nil, rfl⟩
  · have h1' : decide ((40 : Int) < (ps.length : Int)) = false := decide_eq_false h1
    by_cases h2 : (40 : Int) < (ks.length : Int)
    · have h2' : decide ((40 : Int) < (ks.length : Int)) = true := decide_eq_true h2
      have e : longB ps ks = true := by unfold longB; rw [if_pos (.inr (by omega))]
      rw [e]
      repeat first | refine Wp_seq ?_ | refine Wp_region tm_mixed ?_ | refine AW_move rfl rfl ?_ | refine AW_assign rfl rfl ?_ | refine AW_quiet rfl (q_gtE rfl rfl h1') ?_ | refine AW_quietg rfl rfl rfl rfl (q_gtE rfl rfl h2') ?_ | refine AW_quiet rfl (q_lenPoly rfl rfl tu_nums) ?_ | refine AW_quietg rfl rfl rfl rfl (q_lenInts rfl rfl tu_ints) ?_ | refine AW_pickF rfl rfl rfl ?_ | refine AW_moveg rfl rfl rfl rfl rfl ?_ | refine AW_nil (fun (h : false = true) => by cases h) ?_
      refine Wp_condT rfl ?_
      repeat first | refine Wp_seq ?_ | refine Wp_region tm_mixed ?_ | refine AW_assign rfl rfl ?_ | refine AW_nil (fun (h : false = true) => by cases h) ?_ | refine Wp_ret ?_
      exact ⟨.inr rfl, _, .tmp _ _ _ _ rfl .nil, rfl⟩
    · have h2' : decide ((40 : Int) < (ks.length : Int)) = false := decide_eq_false h2
      obtain ⟨T, hT⟩ : ∃ T, longL ps ks 0 0 = T := ⟨_, rfl⟩
      have e : longB ps ks = T := by unfold longB; rw [if_neg (by omega), hT]
      rw [e]
      repeat first | refine Wp_seq ?_ | refine Wp_region tm_mixed ?_ | refine AW_move rfl rfl ?_ | refine AW_assign rfl rfl ?_ | refine AW_quiet rfl (q_gtE rfl rfl h1') ?_ | refine AW_quietg rfl rfl rfl rfl (q_gtE rfl rfl h2') ?_ | refine AW_quiet rfl (q_lenPoly rfl rfl tu_nums) ?_ | refine AW_quietg rfl rfl rfl rfl (q_lenInts rfl rfl tu_ints) ?_ | refine AW_pickF rfl rfl rfl ?_ | refine AW_moveg rfl rfl rfl rfl rfl ?_ | refine AW_nil (fun (h : false = true) => by cases h) ?_
      refine Wp_condF rfl ?_
      repeat first | refine Wp_seq ?_ | refine Wp_region tm_mixed ?_ | refine AW_assign rfl rfl ?_ | refine AW_nil (fun (h : false = true) => by cases h) ?_ | refine Wp_block ?_ | refine Wp_skip ?_
      refine Wp_loop (fun p : Nat × Int × Int => ⟨[(0, .val (.one (.st (polyP ps)))), (1, .val (.one (.st (intsP ks)))), (5, .val (aI p.2.1)), (6, .val (aI p.2.2)), (7, .val (aI (p.1 : Int)))], [], 0⟩)
        (fun p => p.1 ≤ ps.length ∧ p.1 ≤ ks.length ∧ longL (ps.drop p.1) (ks.drop p.1) p.2.1 p.2.2 = T ∧ 0 ≤ p.2.1 ∧ p.2.1 ≤ 72057594037927936 * p.1 ∧ 0 ≤ p.2.2 ∧ p.2.2 ≤ 64 * p.1) (fun p => ps.length - p.1) (0, 0, 0) ⟨Nat.zero_le _, Nat.zero_le _, hT, by decide, by decide, by decide, by decide⟩ (le_of ⟨rfl, rfl, rfl, rfl, rfl, trivial⟩ trivial rfl) ?_
      rintro ⟨i, b, s⟩ ⟨hi, hi2, hd, hb0, hb1, hs0, hs1⟩
      dsimp only at hi hi2 hd hb0 hb1 hs0 hs1 ⊢
      by_cases hp1 : i < ps.length
      · have hp1' : decide ((i : Int) < (ps.length : Int)) = true := decide_eq_true (by omega)
        by_cases hk1 : i < ks.length
        · have hk1' : decide ((i : Int) < (ks.length : Int)) = true := decide_eq_true (by omega)
          obtain ⟨x, hp⟩ : ∃ x, ps[i]? = some x := ⟨_, List.getElem?_eq_getElem hp1⟩
          obtain ⟨k, hk⟩ : ∃ x, ks[i]? = some x := ⟨_, List.getElem?_eq_getElem hk1⟩
          have hxl := hb x (List.mem_of_getElem? hp)
          rw [longL_at hp hk] at hd
          repeat first | refine Wp_seq ?_ | refine Wp_region tm_mixed ?_ | refine AW_move rfl rfl ?_ | refine AW_quiet rfl (q_ltE rfl rfl hp1') ?_ | refine AW_quietg rfl rfl rfl rfl (q_ltE rfl rfl hk1') ?_ | refine AW_quiet rfl (q_lenPoly rfl rfl tu_nums) ?_ | refine AW_quietg rfl rfl rfl rfl (q_lenInts rfl rfl tu_ints) ?_ | refine AW_pickT rfl rfl rfl ?_ | refine AW_moveg rfl rfl rfl rfl rfl ?_ | refine AW_nil (fun (h : false = true) => by cases h) ?_
          refine Wp_condT rfl ?_
          by_cases hk0 : k < 0
          · have hk0' : decide (k < 0) = true := decide_eq_true hk0
            rw [if_pos (.inl hk0)] at hd
            repeat first | refine Wp_seq ?_ | refine Wp_region tm_mixed ?_ | refine AW_move rfl rfl ?_ | refine AW_quiet rfl (q_intAt rfl rfl hk tu_ints ts_int) ?_ | refine AW_quiet rfl (q_intLoad rfl ty_int) ?_ | refine AW_quiet rfl (q_ltE rfl rfl hk0') ?_ | refine AW_pickT rfl rfl rfl ?_ | refine AW_skip rfl rfl rfl rfl ?_ | refine AW_nil (fun (h : false = true) => by cases h) ?_ | refine Wp_block ?_ | refine Wp_skip ?_
            refine Wp_condT rfl ?_
            repeat first | refine Wp_seq ?_ | refine Wp_region tm_mixed ?_ | refine AW_assign rfl rfl ?_ | refine AW_nil (fun (h : false = true) => by cases h) ?_ | refine Wp_ret ?_
            exact ⟨.inr rfl, _, .tmp _ _ _ _ rfl .nil, by rw [← hd]; rfl⟩
          · have hk0' : decide (k < 0) = false := decide_eq_false hk0
            by_cases hk6 : 64 < k
            · have hk6' : decide (64 < k) = true := decide_eq_true hk6
              rw [if_pos (.inr hk6)] at hd
              repeat first | refine Wp_seq ?_ | refine Wp_region tm_mixed ?_ | refine AW_move rfl rfl ?_ | refine AW_quiet rfl (q_intAt rfl rfl hk tu_ints ts_int) ?_ | refine AW_quiet rfl (q_intLoad rfl ty_int) ?_ | refine AW_quiet rfl (q_ltE rfl rfl hk0') ?_ | refine AW_quietg rfl rfl rfl rfl (q_intAt rfl rfl hk tu_ints ts_int) ?_ | refine AW_quietg rfl rfl rfl rfl (q_intLoad rfl ty_int) ?_ | refine AW_quietg rfl rfl rfl rfl (q_gtE rfl rfl hk6') ?_ | refine AW_pickF rfl rfl rfl ?_ | refine AW_moveg rfl rfl rfl rfl rfl ?_ | refine AW_nil (fun (h : false = true) => by cases h) ?_ | refine Wp_block ?_ | refine Wp_skip ?_
              refine Wp_condT rfl ?_
              repeat first | refine Wp_seq ?_ | refine Wp_region tm_mixed ?_ | refine AW_assign rfl rfl ?_ | refine AW_nil (fun (h : false = true) => by cases h) ?_ | refine Wp_ret ?_
              exact ⟨.inr rfl, _, .tmp _ _ _ _ rfl .nil, by rw [← hd]; rfl⟩
            · have hk6' : decide (64 < k) = false := decide_eq_false hk6
              rw [if_neg (by omega)] at hd
              have hS : IntKind.i64.wrap (s + k) = s + k := wrap_i64_in (by omega) (by omega)
              have hM1 : IntKind.i64.wrap (64 * (x.2.length : Int)) = 64 * (x.2.length : Int) := wrap_i64_in (by omega) (by omega)
              have hq : 64 * (x.2.length : Int) * k ≤ 72057594037927936 := Int.le_trans (Int.mul_le_mul (show 64 * (x.2.length : Int) ≤ 1125899906842624 by omega) (show k ≤ 64 by omega) (by omega) (by decide)) (by decide)
              have hq0 : 0 ≤ 64 * (x.2.length : Int) * k := Int.mul_nonneg (by omega) (by omega)
              have hM2 : IntKind.i64.wrap (64 * (x.2.length : Int) * k) = 64 * (x.2.length : Int) * k := wrap_i64_in (by omega) (by omega)
              have hB : IntKind.i64.wrap (b + 64 * (x.2.length : Int) * k) = b + 64 * (x.2.length : Int) * k := wrap_i64_in (by omega) (by omega)
              have hA := lt_facts (k := i) (by omega)
              repeat first | refine Wp_seq ?_ | refine Wp_region tm_mixed ?_ | refine AW_move rfl rfl ?_ | refine AW_quiet rfl (q_intAt rfl rfl hk tu_ints ts_int) ?_ | refine AW_quiet rfl (q_intLoad rfl ty_int) ?_ | refine AW_quiet rfl (q_ltE rfl rfl hk0') ?_ | refine AW_quietg rfl rfl rfl rfl (q_intAt rfl rfl hk tu_ints ts_int) ?_ | refine AW_quietg rfl rfl rfl rfl (q_intLoad rfl ty_int) ?_ | refine AW_quietg rfl rfl rfl rfl (q_gtE rfl rfl hk6') ?_ | refine AW_pickF rfl rfl rfl ?_ | refine AW_moveg rfl rfl rfl rfl rfl ?_ | refine AW_nil (fun (h : false = true) => by cases h) ?_ | refine Wp_block ?_ | refine Wp_skip ?_
              refine Wp_condF rfl ?_
              repeat first | refine Wp_seq ?_ | refine Wp_region tm_mixed ?_ | refine AW_move rfl rfl ?_ | refine AW_assign rfl rfl ?_ | refine AW_quiet rfl (q_intAt rfl rfl hk tu_ints ts_int) ?_ | refine AW_quiet rfl (q_intLoad rfl ty_int) ?_ | refine AW_quiet rfl (q_polyAt rfl rfl hp tu_nums ts_num) ?_ | refine AW_quiet rfl (q_recMag Tryz.underlying24 rfl rfl tz_mag1 rfl) ?_ | refine AW_quiet rfl (q_slot ty_mag rfl) ?_ | refine AW_quiet rfl (q_len rfl rfl Tryz.underlying22) ?_ | refine AW_quiet rfl (q_addE rfl rfl hA) ?_ | refine AW_quiet rfl (q_addE rfl rfl hS) ?_ | refine AW_quiet rfl (q_mulE rfl rfl hM1) ?_ | refine AW_quiet rfl (q_mulE rfl rfl hM2) ?_ | refine AW_quiet rfl (q_addE rfl rfl hB) ?_ | refine AW_nil (fun (h : false = true) => by cases h) ?_ | refine AW_nil (fun (_ : true = true) => by kernel_rfl) ?_ | refine Wp_skip ?_
              exact ⟨(i + 1, b + 64 * (x.2.length : Int) * k, s + k), ⟨hp1, hk1, hd, by show 0 ≤ b + 64 * (x.2.length : Int) * k; omega, by show b + 64 * (x.2.length : Int) * k ≤ 72057594037927936 * ((i + 1 : Nat) : Int); omega, by show 0 ≤ s + k; omega, by show s + k ≤ 64 * ((i + 1 : Nat) : Int); omega⟩, le_of ⟨rfl, rfl, rfl, rfl, rfl, trivial⟩ trivial rfl, by show ps.length - (i + 1) < ps.length - i; omega⟩
        · have hk1' : decide ((i : Int) < (ks.length : Int)) = false := decide_eq_false (by omega)
          have hne : ((ps.length : Int) == (ks.length : Int)) = false := beq_eq_false_iff_ne.2 (by omega)
          have hT2 : T = false := by
            rw [← hd, List.drop_eq_getElem_cons hp1, List.drop_eq_nil_of_le (show ks.length ≤ i by omega)]
            rfl
          repeat first | refine Wp_seq ?_ | refine Wp_region tm_mixed ?_ | refine AW_move rfl rfl ?_ | refine AW_quiet rfl (q_ltE rfl rfl hp1') ?_ | refine AW_quietg rfl rfl rfl rfl (q_ltE rfl rfl hk1') ?_ | refine AW_quiet rfl (q_lenPoly rfl rfl tu_nums) ?_ | refine AW_quietg rfl rfl rfl rfl (q_lenInts rfl rfl tu_ints) ?_ | refine AW_pickT rfl rfl rfl ?_ | refine AW_moveg rfl rfl rfl rfl rfl ?_ | refine AW_nil (fun (h : false = true) => by cases h) ?_
          refine Wp_condF rfl ?_
          repeat first | refine Wp_seq ?_ | refine Wp_region tm_mixed ?_ | refine AW_move rfl rfl ?_ | refine AW_assign rfl rfl ?_ | refine AW_quiet rfl (q_eqE rfl rfl hne) ?_ | refine AW_quiet rfl (q_lenPoly rfl rfl tu_nums) ?_ | refine AW_quiet rfl (q_lenInts rfl rfl tu_ints) ?_ | refine AW_pickF rfl rfl rfl ?_ | refine AW_skip rfl rfl rfl rfl ?_ | refine AW_skipu rfl rfl rfl ?_ | refine AW_nil (fun (h : false = true) => by cases h) ?_ | refine Wp_exit ?_ | refine Wp_ret ?_
          exact ⟨.inr rfl, _, .tmp _ _ _ _ rfl .nil, by rw [hT2]; rfl⟩
      · have hp1' : decide ((i : Int) < (ps.length : Int)) = false := decide_eq_false (by omega)
        by_cases hk1 : i < ks.length
        · have hne : ((ps.length : Int) == (ks.length : Int)) = false := beq_eq_false_iff_ne.2 (by omega)
          have hT2 : T = false := by
            rw [← hd, List.drop_eq_nil_of_le (show ps.length ≤ i by omega), List.drop_eq_getElem_cons hk1]
            rfl
          repeat first | refine Wp_seq ?_ | refine Wp_region tm_mixed ?_ | refine AW_move rfl rfl ?_ | refine AW_quiet rfl (q_ltE rfl rfl hp1') ?_ | refine AW_quiet rfl (q_lenPoly rfl rfl tu_nums) ?_ | refine AW_pickF rfl rfl rfl ?_ | refine AW_skip rfl rfl rfl rfl ?_ | refine AW_nil (fun (h : false = true) => by cases h) ?_
          refine Wp_condF rfl ?_
          repeat first | refine Wp_seq ?_ | refine Wp_region tm_mixed ?_ | refine AW_move rfl rfl ?_ | refine AW_assign rfl rfl ?_ | refine AW_quiet rfl (q_eqE rfl rfl hne) ?_ | refine AW_quiet rfl (q_lenPoly rfl rfl tu_nums) ?_ | refine AW_quiet rfl (q_lenInts rfl rfl tu_ints) ?_ | refine AW_pickF rfl rfl rfl ?_ | refine AW_skip rfl rfl rfl rfl ?_ | refine AW_skipu rfl rfl rfl ?_ | refine AW_nil (fun (h : false = true) => by cases h) ?_ | refine Wp_exit ?_ | refine Wp_ret ?_
          exact ⟨.inr rfl, _, .tmp _ _ _ _ rfl .nil, by rw [hT2]; rfl⟩
        · have heq : ((ps.length : Int) == (ks.length : Int)) = true := by simp; omega
          have hT2 : (decide ((1600 : Int) < b) || decide ((24 : Int) < s)) = T := by
            rw [← hd, List.drop_eq_nil_of_le (show ps.length ≤ i by omega), List.drop_eq_nil_of_le (show ks.length ≤ i by omega)]
            rfl
          repeat first | refine Wp_seq ?_ | refine Wp_region tm_mixed ?_ | refine AW_move rfl rfl ?_ | refine AW_quiet rfl (q_ltE rfl rfl hp1') ?_ | refine AW_quiet rfl (q_lenPoly rfl rfl tu_nums) ?_ | refine AW_pickF rfl rfl rfl ?_ | refine AW_skip rfl rfl rfl rfl ?_ | refine AW_nil (fun (h : false = true) => by cases h) ?_
          refine Wp_condF rfl ?_
          by_cases h16 : (1600 : Int) < b
          · have h16' : decide ((1600 : Int) < b) = true := decide_eq_true h16
            rw [h16'] at hT2
            repeat first | refine Wp_seq ?_ | refine Wp_region tm_mixed ?_ | refine AW_move rfl rfl ?_ | refine AW_assign rfl rfl ?_ | refine AW_quiet rfl (q_eqE rfl rfl heq) ?_ | refine AW_quietg rfl rfl rfl rfl (q_gtE rfl rfl h16') ?_ | refine AW_quiet rfl (q_lenPoly rfl rfl tu_nums) ?_ | refine AW_quiet rfl (q_lenInts rfl rfl tu_ints) ?_ | refine AW_pickT rfl rfl rfl ?_ | refine AW_skip rfl rfl rfl rfl ?_ | refine AW_pickTg rfl rfl rfl rfl rfl rfl ?_ | refine AW_moveg rfl rfl rfl rfl rfl ?_ | refine AW_nil (fun (h : false = true) => by cases h) ?_ | refine Wp_exit ?_ | refine Wp_ret ?_
            exact ⟨.inr rfl, _, .tmp _ _ _ _ rfl .nil, by rw [← hT2]; rfl⟩
          · have h16' : decide ((1600 : Int) < b) = false := decide_eq_false h16
            rw [h16', Bool.false_or] at hT2
            repeat first | refine Wp_seq ?_ | refine Wp_region tm_mixed ?_ | refine AW_move rfl rfl ?_ | refine AW_assign rfl rfl ?_ | refine AW_quiet rfl (q_eqE rfl rfl heq) ?_ | refine AW_quietg rfl rfl rfl rfl (q_gtE rfl rfl h16') ?_ | refine AW_quietg rfl rfl rfl rfl (q_gtE rfl rfl hT2) ?_ | refine AW_quiet rfl (q_lenPoly rfl rfl tu_nums) ?_ | refine AW_quiet rfl (q_lenInts rfl rfl tu_ints) ?_ | refine AW_pickT rfl rfl rfl ?_ | refine AW_pickFg rfl rfl rfl rfl rfl rfl ?_ | refine AW_moveg rfl rfl rfl rfl rfl ?_ | refine AW_nil (fun (h : false = true) => by cases h) ?_ | refine Wp_exit ?_ | refine Wp_ret ?_
            exact ⟨.inr rfl, _, .tmp _ _ _ _ rfl .nil, rfl⟩
set_option maxHeartbeats 2000000 in
set_option maxRecDepth 100000 in
theorem ct_PowerOrders (x y : Raw) (ps : List Raw) (ks : List Int) (hx : Small x.2) (hy : Small y.2) (hps : ∀ z ∈ ps, Small z.2) (hb : ∀ z ∈ ps, z.2.length ≤ 17592186044416) :
    Ct Tryz.prog 5 [aNum x, aNum y, .val (.one (.st (polyP ps))), .val (.one (.st (intsP ks)))] (.val (aB true)) := by
  refine ct_of_wp [.tmp 8] [(0, aNum x), (1, aNum y), (2, .val (.one (.st (polyP ps)))), (3, .val (.one (.st (intsP ks))))] 53 Tryz.func5 rfl rfl rfl rfl rfl rfl rfl rfl ?_
  intro G0 w0
  have kA := ct_awake21
  have kL := ct_long21 ps ks hb
  by_cases h1 : (4 : Int) < (x.2.length : Int)
  · have h1 : decide ((4 : Int) < (x.2.length : Int)) = true := decide_eq_true h1
    repeat first | refine Wp_seq ?_ | refine Wp_region tm_mixed ?_ | refine AW_move rfl rfl ?_ | refine AW_assign rfl rfl ?_ | refine AW_box rfl rfl (row := true) rfl (fun h => by cases h) rfl ?_ | refine AW_quiet rfl (q_gtE rfl rfl h1) ?_ | refine AW_fieldAddr rfl tf_mag rfl rfl ?_ | refine AW_load rfl ty_mag rfl rfl rfl rfl ?_ | refine AW_len rfl rfl Tryz.underlying22 ?_ | refine AW_pickT rfl rfl rfl ?_ | refine AW_skip rfl rfl rfl rfl ?_ | refine AW_nil (fun (h : false = true) => by cases h) ?_
    refine Wp_condT rfl ?_
    repeat first | refine Wp_seq ?_ | refine Wp_region tm_mixed ?_ | refine AW_assign rfl rfl ?_ | refine AW_call rfl rfl (by first | exact kA) ?_ | refine AW_nil (fun (h : false = true) => by cases h) ?_ | refine Wp_ret ?_
    exact ⟨.inr rfl, _, .tmp _ _ _ _ rfl .nil, rfl⟩
  · have lx := h1
    have h1 : decide ((4 : Int) < (x.2.length : Int)) = false := decide_eq_false h1
    by_cases h2 : (4 : Int) < (y.2.length : Int)
    · have h2 : decide ((4 : Int) < (y.2.length : Int)) = true := decide_eq_true h2
      repeat first | refine Wp_seq ?_ | refine Wp_region tm_mixed ?_ | refine AW_move rfl rfl ?_ | refine AW_assign rfl rfl ?_ | refine AW_box rfl rfl (row := true) rfl (fun h => by cases h) rfl ?_ | refine AW_fieldAddrg rfl rfl rfl rfl tf_mag rfl rfl ?_ | refine AW_loadg rfl rfl rfl rfl ty_mag rfl rfl rfl rfl ?_ | refine AW_quietg rfl rfl rfl rfl (q_len rfl rfl Tryz.underlying22) ?_ | refine AW_quiet rfl (q_gtE rfl rfl h1) ?_ | refine AW_quietg rfl rfl rfl rfl (q_gtE rfl rfl h2) ?_ | refine AW_fieldAddr rfl tf_mag rfl rfl ?_ | refine AW_load rfl ty_mag rfl rfl rfl rfl ?_ | refine AW_len rfl rfl Tryz.underlying22 ?_ | refine AW_pickT rfl rfl rfl ?_ | refine AW_pickF rfl rfl rfl ?_ | refine AW_skip rfl rfl rfl rfl ?_ | refine AW_nil (fun (h : false = true) => by cases h) ?_
      refine Wp_condT rfl ?_
      repeat first | refine Wp_seq ?_ | refine Wp_region tm_mixed ?_ | refine AW_assign rfl rfl ?_ | refine AW_call rfl rfl (by first | exact kA) ?_ | refine AW_nil (fun (h : false = true) => by cases h) ?_ | refine Wp_ret ?_
      exact ⟨.inr rfl, _, .tmp _ _ _ _ rfl .nil, rfl⟩
    · have ly := h2
      have h2 : decide ((4 : Int) < (y.2.length : Int)) = false := decide_eq_false h2
      cases hl : longB ps ks with
      | true =>
        rw [hl] at kL
        repeat first | refine Wp_seq ?_ | refine Wp_region tm_mixed ?_ | refine AW_move rfl rfl ?_ | refine AW_assign rfl rfl ?_ | refine AW_box rfl rfl (row := true) rfl (fun h => by cases h) rfl ?_ | refine AW_fieldAddrg rfl rfl rfl rfl tf_mag rfl rfl ?_ | refine AW_loadg rfl rfl rfl rfl ty_mag rfl rfl rfl rfl ?_ | refine AW_quietg rfl rfl rfl rfl (q_len rfl rfl Tryz.underlying22) ?_ | refine AW_quiet rfl (q_gtE rfl rfl h1) ?_ | refine AW_quietg rfl rfl rfl rfl (q_gtE rfl rfl h2) ?_ | refine AW_fieldAddr rfl tf_mag rfl rfl ?_ | refine AW_load rfl ty_mag rfl rfl rfl rfl ?_ | refine AW_len rfl rfl Tryz.underlying22 ?_ | refine AW_pickF rfl rfl rfl ?_ | refine AW_moveg rfl rfl rfl rfl rfl ?_ | refine AW_callg rfl rfl rfl rfl rfl (by first | exact kA | exact kL) ?_ | refine AW_nil (fun (h : false = true) => by cases h) ?_
        refine Wp_condT rfl ?_
        repeat first | refine Wp_seq ?_ | refine Wp_region tm_mixed ?_ | refine AW_assign rfl rfl ?_ | refine AW_call rfl rfl (by first | exact kA) ?_ | refine AW_nil (fun (h : false = true) => by cases h) ?_ | refine Wp_ret ?_
        exact ⟨.inr rfl, _, .tmp _ _ _ _ rfl .nil, rfl⟩
      | false =>
        rw [hl] at kL
        obtain ⟨R, e, hR, k1, k2⟩ := order_both x y ps ks hx hy hps (by omega) (by omega) hl
        have k3 := ct_lis R e (by omega)
        repeat first | refine Wp_seq ?_ | refine Wp_region tm_mixed ?_ | refine AW_move rfl rfl ?_ | refine AW_assign rfl rfl ?_ | refine AW_box rfl rfl (row := true) rfl (fun h => by cases h) rfl ?_ | refine AW_fieldAddrg rfl rfl rfl rfl tf_mag rfl rfl ?_ | refine AW_loadg rfl rfl rfl rfl ty_mag rfl rfl rfl rfl ?_ | refine AW_quietg rfl rfl rfl rfl (q_len rfl rfl Tryz.underlying22) ?_ | refine AW_quiet rfl (q_gtE rfl rfl h1) ?_ | refine AW_quietg rfl rfl rfl rfl (q_gtE rfl rfl h2) ?_ | refine AW_fieldAddr rfl tf_mag rfl rfl ?_ | refine AW_load rfl ty_mag rfl rfl rfl rfl ?_ | refine AW_len rfl rfl Tryz.underlying22 ?_ | refine AW_pickF rfl rfl rfl ?_ | refine AW_moveg rfl rfl rfl rfl rfl ?_ | refine AW_callg rfl rfl rfl rfl rfl (by first | exact kA | exact kL) ?_ | refine AW_nil (fun (h : false = true) => by cases h) ?_
        refine Wp_condF rfl ?_
        repeat first | refine Wp_seq ?_ | refine Wp_region tm_mixed ?_ | refine AW_move rfl rfl ?_ | refine AW_assign rfl rfl ?_ | refine AW_load rfl ty_num rfl rfl rfl rfl ?_ | refine AW_store ty_num rfl rfl rfl rfl rfl rfl rfl ?_ | refine AW_extract rfl rfl rfl ?_ | refine AW_alloc rfl tz_num ?_ | refine AW_call rfl rfl (by first | exact kA | exact k1 | exact k2 | exact k3) ?_ | refine AW_pickT rfl rfl rfl ?_ | refine AW_callg rfl rfl rfl rfl rfl (by first | exact kA | exact k1 | exact k2 | exact k3) ?_ | refine AW_nil (fun (h : false = true) => by cases h) ?_ | refine Wp_skip ?_ | refine Wp_ret ?_
        exact ⟨.inr rfl, _, .tmp _ _ _ _ rfl .nil, rfl⟩
end Go.Proofs.YtjbagikfogejnaaGreatDoor
/- Whole numbers, on: Bit, SetBit, Exp. -/
namespace Go.Proofs.YtjbagikfogejnaaGreatDoor
open Go.RowKit Go.Deep
/-- The bit at place i. -/
def bitAt (n i : Nat) : Nat := n / 2 ^ i % 2
end Go.Proofs.YtjbagikfogejnaaGreatDoor
/- The package root: Square, Of, Perfect. -/
namespace Go.Proofs.YtjbagikfogejnaaGreatDoor
open Go.RowKit Go.Deep
theorem and_one_i64 (n : Nat) (h : (n : Int) < 9223372036854775808) : bits BinOp.and IntKind.i64 (n : Int) 1 = ((n % 2 : Nat) : Int) := by
  have h1 : (BitVec.ofInt 64 (n : Int)).toNat = n := by
    rw [BitVec.ofInt_natCast, BitVec.toNat_ofNat]; exact Nat.mod_eq_of_lt (by omega)
  have h2 : (BitVec.ofInt 64 ((1 : Nat) : Int)).toNat = 1 := by
    rw [BitVec.ofInt_natCast, BitVec.toNat_ofNat]
  show IntKind.i64.wrap ((BitVec.ofInt 64 (n : Int) &&& BitVec.ofInt 64 ((1 : Nat) : Int)).toNat : Int) = _
  rw [BitVec.toNat_and, h1, h2, Nat.and_one_is_mod]
  rw [IntKind.wrap_i64]
  omega
end Go.Proofs.YtjbagikfogejnaaGreatDoor
/- The package times: bitlen, Square, Power (of numbers that stay short). -/
namespace Go.Proofs.YtjbagikfogejnaaGreatDoor
open Go.RowKit Go.Deep
set_option maxHeartbeats 1000000 in
set_option maxRecDepth 100000 in
theorem times_bitlen (v : Value) (x : Int) (w : World) (h : IntV w v x) (hl : lc x.natAbs ≤ 4096) (h0 : x ≠ 0) :
    Calls Tryz.prog 98 #[v] w fun e w' => e = .returned (.int .i64 (nbits x.natAbs : Nat)) ∧ Below w.heap.size w w' := by
  obtain ⟨A, l, c, rfl, el, hc, hlim⟩ := h
  obtain ⟨ys, t, hyt, ht0⟩ := snoc_of_norm (norm_limbs x.natAbs) (fun e => by have := limbs_eq_nil.1 e; omega)
  have hsm := small_limbs x.natAbs
  rw [hyt] at hsm
  have hys : Small ys := fun z hz => hsm z (by simp [hz])
  have htW : t < W64 := hsm t (by simp)
  have hnb := nbits_top hys ht0 htW
  rw [← hyt, val_limbs] at hnb
  have hlen : (limbs x.natAbs).length = ys.length + 1 := by rw [hyt]; simp
  obtain ⟨ad, rfl, hb, hcell⟩ := hlim.at_ (k := ys.length) (by omega)
  have e : (limbs x.natAbs).getD ys.length 0 = t := by rw [hyt]; simp
  rw [e] at hcell
  obtain ⟨m, hm⟩ : ∃ m, ys.length = m := ⟨_, rfl⟩
  rw [hm] at hcell hlen hnb
  rw [hlen] at el
  subst el
  have hbl := bitLen_le64 htW
  have HN := Lib.hid hnb
  have hmI : (m : Int) ≤ 4096 := by unfold lc at hl; omega
  obtain ⟨s, hs⟩ : ∃ s, decide (x < 0) = s := ⟨_, rfl⟩
  rw [hs]
  have HB := Lib.hid hb
  clear hnb e hlen hm hyt hys hsm hs hl hlim
  go_enter Tryz.func98, Tryz.ntmps98
  go_upto_region 1 with (fail)
  obtain ⟨W0, g, hW, hg, bx, hgg, hszw, hbw⟩ := boxH w (.bool s) (.slice (some ad) (m + 1) c)
  rw [hW, hg]
  have hcell := (hbw.cell (p := ad.add m) (by rw [block_of_add]; exact HB.out)).trans hcell
  have a0 := bx.out.cell0
  have a1 := bx.out.cell1
  have HBW := Lib.hid hbw
  clear hW hg hbw
  go_wp2_with fail
  go_quiet ((go_at_call 139; exact quiet_left (bits_lz64 t htW _)))
  go_wp2_with fail
  go_ret
  exact ⟨by rw [HN.out, show ((64 * m + bitLen t : Nat) : Int) = 64 * ((m : Int) + 1) - ((64 - bitLen t : Nat) : Int) by omega]; rfl, below_drewN HBW.out _⟩
/-- Another sign. -/
theorem RawAt.sign {w : World} {base : Nat} {b b1 : Bool} {s : Value} {xs : List Nat} (h : RawAt w base (.agg #[.bool b, s]) (b1, xs)) (b' : Bool) : RawAt w base (.agg #[.bool b', s]) (b', xs) := by
  obtain ⟨A, l, c, hv, hl, hc, hlim, hf⟩ := h
  injection hv with hv
  have h1 := congrArg (fun a => a[1]?) hv
  simp at h1
  subst h1
  exact ⟨A, l, c, rfl, hl, hc, hlim, hf⟩
end Go.Proofs.YtjbagikfogejnaaGreatDoor
/- The law PowerPlain: powers of whole numbers, by the abstract machine. -/
namespace Go.Proofs.YtjbagikfogejnaaGreatDoor
open Go.RowKit Go.Deep
theorem q_andI {P : Program} {d : Option Nat} {ty : TypeId} {pos : String} {aft : Array Edge} {ev : Operand → Option AR} {x y : Operand} {xt yt : TypeId} {m v : Nat} (hx : ev x = some (.val (aI (m : Int)))) (hy : ev y = some (.val (aI 1))) (hm : (m : Int) < 9223372036854775808) (hv : m % 2 = v) :
    Quiet P ⟨d, .binOp .and xt x y yt, ty, pos, aft, none⟩ ev (.val (aI (v : Int))) :=
  q_of2 hx hy (by simp [Op.operands]) (by simp [Op.operands]) fun G β w U ρ _ hk _ hk' => by
    subst hv
    have hk : ρ x = .int .i64 (m : Int) := hk
    have hk' : ρ y = .int .i64 1 := hk'
    refine ⟨.int .i64 ((m % 2 : Nat) : Int), ?_, rfl, trivial⟩
    have hrun : (binOp .and xt (.int .i64 (m : Int)) (.int .i64 1)).run P w = .ok (.int .i64 ((m % 2 : Nat) : Int)) w := by
      have h := and_one_i64 m hm
      show (pure (Value.int .i64 (bits BinOp.and IntKind.i64 (m : Int) 1)) : Sem Value).run P w = _
      rw [h]
      rfl
    unfold execOp
    have hg : (eqGuard BinOp.and xt x y (Value.int IntKind.i64 (m : Int)) (Value.int IntKind.i64 1)).run P w = .ok () w := rfl
    simp only [hk, hk', Sem.run_bind, hg, hrun, Result.andThen_ok, Sem.run_pure]
theorem ct_bitlen (x : Int) (hl : lc x.natAbs ≤ 4096) (h0 : x ≠ 0) : Ct Tryz.prog 98 [aZ x] (.val (aI (nbits x.natAbs : Nat))) :=
  ct1 Tryz.func98 rfl rfl rfl fun w u h => (times_bitlen u x w h.int hl h0).mono (by rintro e w' ⟨rfl, hb⟩; exact ⟨_, rfl, fun _ _ => rfl, hb⟩)
theorem ct_Len (n : Nat) (hn : n < 18446744073709551616) : Ct Tryz.prog 99 [.val (.one (.i .u64 (n : Int)))] (.val (aI (bitLen n : Nat))) where
  enters := fun vals w => enters_of Tryz.func99 rfl rfl vals w
  nop := rfl
  calls := by
    intro G β w vals _ ha
    rcases vals with _ | ⟨u, _ | ⟨v, vs⟩⟩
    · exact ha.elim
    · obtain ⟨hu, _⟩ := ha
      have hu : u = .int .u64 (n : Int) := hu
      subst hu
      refine (Tryz.bits_Len (n : Int) w (by omega) (by omega)).mono ?_
      rintro e w' ⟨rfl, rfl⟩
      exact ⟨_, rfl, rfl, Below.refl _ _⟩
    · exact ha.2.elim
set_option maxRecDepth 100000 in
theorem ct_Square0 (x : Int) (hx : lc x.natAbs ≤ 1000) : Ct Tryz.prog 47 [aZ x] (.tup [zZ (x * x), aI 0]) := by
  refine ct_of_wp [.cell 2 24, .tmp 3] [(0, aZ x)] 9 Tryz.func47 rfl rfl rfl rfl rfl rfl rfl rfl ?_
  intro G0 w0
  have k1 := ct_Mul0 x x (by omega) (by omega) (by omega)
  repeat first | refine Wp_seq ?_ | refine Wp_region tm_mixed ?_ | refine AW_assign rfl rfl ?_ | refine AW_load rfl ty_num rfl rfl rfl rfl ?_ | refine AW_store ty_num rfl rfl rfl rfl rfl rfl rfl ?_ | refine AW_extract rfl rfl rfl ?_ | refine AW_alloc rfl tz_num ?_ | refine AW_box rfl rfl (row := true) rfl (fun h => by cases h) rfl ?_ | refine AW_call rfl rfl (by first | exact k1) ?_ | refine AW_nil (fun (h : false = true) => by cases h) ?_ | refine Wp_ret ?_
  exact ⟨.inr rfl, _, .cell _ _ _ _ _ _ _ _ _ _ _ ty_num rfl rfl rfl (.tmp _ _ _ _ rfl .nil), rfl⟩
theorem lc_powZ {x : Int} {k n : Nat} (hx : lc x.natAbs ≤ k) (h1 : 1 ≤ k) : lc (x ^ n).natAbs ≤ n * k + 1 := by
  rw [Int.natAbs_pow]
  induction n with
  | zero => rw [Nat.pow_zero]; exact Nat.le_trans (lc_le.2 (show 1 < W64 ^ 1 by rw [W64_eq]; decide)) (by omega)
  | succ n ih =>
    have := lc_mul (x.natAbs ^ n) x.natAbs
    rw [Nat.pow_succ, Nat.succ_mul]
    omega
theorem pow_bit (x : Int) (n s : Nat) : x ^ (n / 2 ^ s) = if n / 2 ^ s % 2 = 1 then x ^ (n / 2 ^ (s + 1)) * x ^ (n / 2 ^ (s + 1)) * x else x ^ (n / 2 ^ (s + 1)) * x ^ (n / 2 ^ (s + 1)) := by
  have hb := bit_more n s
  obtain ⟨q, hq⟩ : ∃ q, n / 2 ^ (s + 1) = q := ⟨_, rfl⟩
  rw [hq] at hb ⊢
  rw [← Int.pow_add]
  split
  · rename_i h
    rw [← Int.pow_succ]
    congr 1
    omega
  · rename_i h
    congr 1
    omega
set_option maxHeartbeats 2000000 in
set_option maxRecDepth 100000 in
theorem ct_tPower (x : Int) (n : Nat) (hx : lc x.natAbs ≤ 6) (hn : n < 24) : Ct Tryz.prog 48 [aZ x, .val (aI (n : Int))] (.tup [zZ (x ^ n), aI 0]) := by
  refine ct_of_wp [.cell 4 24, .tmp 5] [(0, aZ x), (1, .val (aI (n : Int)))] 91 Tryz.func48 rfl rfl rfl rfl rfl rfl rfl rfl ?_
  intro G0 w0
  have kR := ct_Right (rawOf x)
  rw [right_raw (by omega)] at kR
  have k1 := ct_limbOf 1 (by decide) (by decide)
  have hn0 : decide ((n : Int) < 0) = false := decide_eq_false (by omega)
  repeat first | refine Wp_seq ?_ | refine Wp_region tm_mixed ?_ | refine AW_move rfl rfl ?_ | refine AW_assign rfl rfl ?_ | refine AW_load rfl ty_num rfl rfl rfl rfl ?_ | refine AW_alloc rfl tz_num ?_ | refine AW_box rfl rfl (row := true) rfl (fun h => by cases h) rfl ?_ | refine AW_not rfl rfl ?_ | refine AW_call rfl rfl (by first | exact kR) ?_ | refine AW_quietg rfl rfl rfl rfl (q_ltE rfl rfl hn0) ?_ | refine AW_pickF rfl rfl rfl ?_ | refine AW_moveg rfl rfl rfl rfl rfl ?_ | refine AW_nil (fun (h : false = true) => by cases h) ?_
  refine Wp_condF rfl ?_
  by_cases hz : n = 0
  · subst hz
    repeat first | refine Wp_seq ?_ | refine Wp_region tm_mixed ?_ | refine AW_move rfl rfl ?_ | refine AW_assign rfl rfl ?_ | refine AW_store ty_num rfl rfl rfl rfl rfl rfl rfl ?_ | refine AW_alloc rfl tz_num ?_ | refine AW_call rfl rfl (by first | exact k1) ?_ | refine AW_eq rfl rfl rfl ?_ | refine AW_nil (fun (h : false = true) => by cases h) ?_ | refine Wp_block ?_ | refine Wp_skip ?_
    refine Wp_condT rfl ?_
    repeat first | refine Wp_seq ?_ | refine Wp_region tm_mixed ?_ | refine AW_assign rfl rfl ?_ | refine AW_load rfl ty_num rfl rfl rfl rfl ?_ | refine AW_store ty_num rfl rfl rfl rfl rfl rfl rfl ?_ | refine AW_nil (fun (h : false = true) => by cases h) ?_ | refine Wp_ret ?_
    exact ⟨.inr rfl, _, .cell _ _ _ _ _ _ _ _ _ _ _ ty_num rfl rfl rfl (.tmp _ _ _ _ rfl .nil), by rw [Int.pow_zero]; rfl⟩
  · have hzE : ((n : Int) == 0) = false := beq_eq_false_iff_ne.2 (by omega)
    repeat first | refine Wp_seq ?_ | refine Wp_region tm_mixed ?_ | refine AW_move rfl rfl ?_ | refine AW_assign rfl rfl ?_ | refine AW_store ty_num rfl rfl rfl rfl rfl rfl rfl ?_ | refine AW_alloc rfl tz_num ?_ | refine AW_call rfl rfl (by first | exact k1) ?_ | refine AW_quiet rfl (q_eqE rfl rfl hzE) ?_ | refine AW_nil (fun (h : false = true) => by cases h) ?_ | refine Wp_block ?_ | refine Wp_skip ?_
    refine Wp_condF rfl ?_
    by_cases hx0 : x = 0
    · subst hx0
      have h0 : (((rawOf 0).2.length : Int) == 0) = true := by rw [rawOf_zero]; rfl
      repeat first | refine Wp_seq ?_ | refine Wp_region tm_mixed ?_ | refine AW_assign rfl rfl ?_ | refine AW_quiet rfl (q_eqE rfl rfl h0) ?_ | refine AW_fieldAddr rfl tf_mag rfl rfl ?_ | refine AW_load rfl ty_mag rfl rfl rfl rfl ?_ | refine AW_len rfl rfl Tryz.underlying22 ?_ | refine AW_nil (fun (h : false = true) => by cases h) ?_
      refine Wp_condT rfl ?_
      repeat first | refine Wp_seq ?_ | refine Wp_region tm_mixed ?_ | refine AW_assign rfl rfl ?_ | refine AW_store ty_num rfl rfl rfl rfl rfl rfl rfl ?_ | refine AW_build rfl tb_num rfl ?_ | refine AW_nil (fun (h : false = true) => by cases h) ?_ | refine Wp_ret ?_
      exact ⟨.inr rfl, _, .cell _ _ _ _ _ _ _ _ _ _ _ ty_num rfl rfl rfl (.tmp _ _ _ _ rfl .nil), by rw [Int.zero_pow hz, zZ_zero]; rfl⟩
    · have h0 : (((rawOf x).2.length : Int) == 0) = false := beq_eq_false_iff_ne.2 fun e => hx0 (rawOf_len0.1 (by omega))
      repeat first | refine Wp_seq ?_ | refine Wp_region tm_mixed ?_ | refine AW_assign rfl rfl ?_ | refine AW_quiet rfl (q_eqE rfl rfl h0) ?_ | refine AW_fieldAddr rfl tf_mag rfl rfl ?_ | refine AW_load rfl ty_mag rfl rfl rfl rfl ?_ | refine AW_len rfl rfl Tryz.underlying22 ?_ | refine AW_nil (fun (h : false = true) => by cases h) ?_
      refine Wp_condF rfl ?_
      by_cases h1 : x = 1 ∨ x = -1
      · have e1 : (rawOf x).2 = [1] := by rcases h1 with rfl | rfl <;> rw [raw_small (by decide) (by rw [W64_eq]; decide)] <;> rfl
        have hl1 : (((rawOf x).2.length : Int) == 1) = true := by rw [e1]; rfl
        have hg0 : (rawOf x).2[0]? = some 1 := by rw [e1]; rfl
        have hk0 : 0 < (rawOf x).2.length := by rw [e1]; decide
        have hm : n % 2 = n % 2 := rfl
        rcases h1 with rfl | rfl
        · have hG : mkAV false [AC.b (rawOf 1).1] = aB false := rfl
          repeat first | refine Wp_seq ?_ | refine Wp_region tm_mixed ?_ | refine AW_move rfl rfl ?_ | refine AW_assign rfl rfl ?_ | refine AW_quiet rfl (q_eqE rfl rfl hl1) ?_ | refine AW_fieldAddrg rfl rfl rfl rfl tf_mag rfl rfl ?_ | refine AW_loadg rfl rfl rfl rfl ty_mag rfl rfl rfl rfl ?_ | refine AW_quietg rfl rfl rfl rfl (q_limbAt (k := 0) rfl rfl hk0 Tryz.underlying22 ts_limb) ?_ | refine AW_quietg rfl rfl rfl rfl (q_limbLoad rfl ty_limb hg0) ?_ | refine AW_fieldAddr rfl tf_mag rfl rfl ?_ | refine AW_load rfl ty_mag rfl rfl rfl rfl ?_ | refine AW_len rfl rfl Tryz.underlying22 ?_ | refine AW_pickT rfl rfl rfl ?_ | refine AW_eqg rfl rfl rfl rfl rfl rfl ?_ | refine AW_nil (fun (h : false = true) => by cases h) ?_
          refine Wp_condT rfl ?_
          repeat first | refine Wp_seq ?_ | refine Wp_region tm_mixed ?_ | refine AW_move rfl rfl ?_ | refine AW_assign rfl rfl ?_ | refine AW_load rfl ty_num rfl rfl rfl rfl ?_ | refine AW_store ty_num rfl rfl rfl rfl rfl rfl rfl ?_ | refine AW_load rfl ty_bool rfl rfl rfl hG ?_ | refine AW_store1 ty_bool rfl rfl rfl rfl rfl ?_ | refine AW_fieldAddr rfl tf_neg rfl rfl ?_ | refine AW_pickF rfl rfl rfl ?_ | refine AW_skip rfl rfl rfl rfl ?_ | refine AW_nil (fun (h : false = true) => by cases h) ?_ | refine Wp_ret ?_
          exact ⟨.inr rfl, _, .cell _ _ _ _ _ _ _ _ _ _ _ ty_num rfl rfl rfl (.tmp _ _ _ _ rfl .nil), by rw [Int.one_pow]; rfl⟩
        · have hG : mkAV false [AC.b (rawOf (-1)).1] = aB true := rfl
          rcases Nat.mod_two_eq_zero_or_one n with h2 | h2
          · have e2 : (-1 : Int) ^ n = 1 := by
              obtain ⟨q, hq⟩ : ∃ q, n = 2 * q := ⟨n / 2, by omega⟩
              rw [hq, Int.pow_mul, show (-1 : Int) ^ 2 = 1 from rfl, Int.one_pow]
            rw [e2]
            repeat first | refine Wp_seq ?_ | refine Wp_region tm_mixed ?_ | refine AW_move rfl rfl ?_ | refine AW_assign rfl rfl ?_ | refine AW_quiet rfl (q_eqE rfl rfl hl1) ?_ | refine AW_fieldAddrg rfl rfl rfl rfl tf_mag rfl rfl ?_ | refine AW_loadg rfl rfl rfl rfl ty_mag rfl rfl rfl rfl ?_ | refine AW_quietg rfl rfl rfl rfl (q_limbAt (k := 0) rfl rfl hk0 Tryz.underlying22 ts_limb) ?_ | refine AW_quietg rfl rfl rfl rfl (q_limbLoad rfl ty_limb hg0) ?_ | refine AW_fieldAddr rfl tf_mag rfl rfl ?_ | refine AW_load rfl ty_mag rfl rfl rfl rfl ?_ | refine AW_len rfl rfl Tryz.underlying22 ?_ | refine AW_pickT rfl rfl rfl ?_ | refine AW_eqg rfl rfl rfl rfl rfl rfl ?_ | refine AW_nil (fun (h : false = true) => by cases h) ?_
            refine Wp_condT rfl ?_
            repeat first | refine Wp_seq ?_ | refine Wp_region tm_mixed ?_ | refine AW_move rfl rfl ?_ | refine AW_assign rfl rfl ?_ | refine AW_load rfl ty_num rfl rfl rfl rfl ?_ | refine AW_store ty_num rfl rfl rfl rfl rfl rfl rfl ?_ | refine AW_load rfl ty_bool rfl rfl rfl hG ?_ | refine AW_quietg rfl rfl rfl rfl (q_andI rfl rfl (by omega) h2) ?_ | refine AW_store1 ty_bool rfl rfl rfl rfl rfl ?_ | refine AW_fieldAddr rfl tf_neg rfl rfl ?_ | refine AW_pickT rfl rfl rfl ?_ | refine AW_moveg rfl rfl rfl rfl rfl ?_ | refine AW_eqg rfl rfl rfl rfl rfl rfl ?_ | refine AW_nil (fun (h : false = true) => by cases h) ?_ | refine Wp_ret ?_
            exact ⟨.inr rfl, _, .cell _ _ _ _ _ _ _ _ _ _ _ ty_num rfl rfl rfl (.tmp _ _ _ _ rfl .nil), rfl⟩
          · have e2 : (-1 : Int) ^ n = -1 := by
              obtain ⟨q, hq⟩ : ∃ q, n = 2 * q + 1 := ⟨n / 2, by omega⟩
              rw [hq, Int.pow_succ, Int.pow_mul, show (-1 : Int) ^ 2 = 1 from rfl, Int.one_pow]; rfl
            rw [e2]
            repeat first | refine Wp_seq ?_ | refine Wp_region tm_mixed ?_ | refine AW_move rfl rfl ?_ | refine AW_assign rfl rfl ?_ | refine AW_quiet rfl (q_eqE rfl rfl hl1) ?_ | refine AW_fieldAddrg rfl rfl rfl rfl tf_mag rfl rfl ?_ | refine AW_loadg rfl rfl rfl rfl ty_mag rfl rfl rfl rfl ?_ | refine AW_quietg rfl rfl rfl rfl (q_limbAt (k := 0) rfl rfl hk0 Tryz.underlying22 ts_limb) ?_ | refine AW_quietg rfl rfl rfl rfl (q_limbLoad rfl ty_limb hg0) ?_ | refine AW_fieldAddr rfl tf_mag rfl rfl ?_ | refine AW_load rfl ty_mag rfl rfl rfl rfl ?_ | refine AW_len rfl rfl Tryz.underlying22 ?_ | refine AW_pickT rfl rfl rfl ?_ | refine AW_eqg rfl rfl rfl rfl rfl rfl ?_ | refine AW_nil (fun (h : false = true) => by cases h) ?_
            refine Wp_condT rfl ?_
            repeat first | refine Wp_seq ?_ | refine Wp_region tm_mixed ?_ | refine AW_move rfl rfl ?_ | refine AW_assign rfl rfl ?_ | refine AW_load rfl ty_num rfl rfl rfl rfl ?_ | refine AW_store ty_num rfl rfl rfl rfl rfl rfl rfl ?_ | refine AW_load rfl ty_bool rfl rfl rfl hG ?_ | refine AW_quietg rfl rfl rfl rfl (q_andI rfl rfl (by omega) h2) ?_ | refine AW_store1 ty_bool rfl rfl rfl rfl rfl ?_ | refine AW_fieldAddr rfl tf_neg rfl rfl ?_ | refine AW_pickT rfl rfl rfl ?_ | refine AW_moveg rfl rfl rfl rfl rfl ?_ | refine AW_eqg rfl rfl rfl rfl rfl rfl ?_ | refine AW_nil (fun (h : false = true) => by cases h) ?_ | refine Wp_ret ?_
            have e3 : zZ (-1) = aInt (true, (rawOf 1).2) := by show aInt (rawOf (-1)) = _; rw [raw_small (x := -1) (by decide) (by rw [W64_eq]; decide), raw_one]; rfl
            rw [e3]
            exact ⟨.inr rfl, _, .cell _ _ _ _ _ _ _ _ _ _ _ ty_num rfl rfl rfl (.tmp _ _ _ _ rfl .nil), rfl⟩
      · have hone : ∀ (m : Nat), (rawOf x).2[0]? = some m → (((rawOf x).2.length : Int) == 1) = true → ((m : Int) == 1) = false := by
          intro m hm hl
          refine beq_eq_false_iff_ne.2 fun e => h1 ?_
          have hl' : (rawOf x).2.length = 1 := by have := of_decide_eq_true hl; omega
          obtain ⟨y, hy⟩ := List.length_eq_one_iff.1 hl'
          rw [hy] at hm
          have hm : y = m := by simpa using hm
          have hv : x.natAbs = y := by rw [← val_limbs x.natAbs, show limbs x.natAbs = [y] from hy]; simp [val]
          omega
        have kB := ct_bitlen x (by omega) hx0
        have hb := nbits_lc hx
        have hb1 : 1 ≤ nbits x.natAbs := by
          rcases Nat.eq_zero_or_pos (nbits x.natAbs) with h | h
          · have := nbits_le.1 (Nat.le_of_eq h); omega
          · exact h
        have hS1 : IntKind.i64.wrap (((nbits x.natAbs : Nat) : Int) - 1) = ((nbits x.natAbs : Nat) : Int) - 1 := wrap_i64_in (by omega) (by omega)
        obtain ⟨D, hD, hD1, hD2⟩ : ∃ D : Nat, (if (1 : Int) > ((nbits x.natAbs : Nat) : Int) - 1 then (1 : Int) else ((nbits x.natAbs : Nat) : Int) - 1) = (D : Int) ∧ 1 ≤ D ∧ D ≤ 384 := ⟨max (nbits x.natAbs - 1) 1, by split <;> omega, by omega, by omega⟩
        obtain ⟨Q, hQe⟩ : ∃ Q, 262144 / D = Q := ⟨_, rfl⟩
        have hQ2 : 682 ≤ Q := by rw [← hQe]; exact (Nat.le_div_iff_mul_le (by omega)).2 (by omega)
        have hQ3 : Q ≤ 262144 := by rw [← hQe]; exact Nat.div_le_self _ _
        have hQ : IntKind.i64.wrap ((262144 : Int).tdiv (D : Int)) = (Q : Int) := by
          have h : (262144 : Int).tdiv (D : Int) = ((262144 / D : Nat) : Int) := rfl
          rw [h, hQe, wrap_i64_in (by omega) (by omega)]
        have hGt : decide ((Q : Int) < (n : Int)) = false := decide_eq_false (by omega)
        have kL := ct_Len n (by omega)
        have hbl := bitLen_spec n (by omega)
        have hpos := bitLen_pos (x := n) (by omega) hz
        have hle := bitLen_le64 (x := n) (by rw [W64_eq]; omega)
        have hC : IntKind.u64.wrap (n : Int) = (n : Int) := by rw [IntKind.wrap_u64]; omega
        have hS2 : IntKind.i64.wrap (((bitLen n : Nat) : Int) - 1) = ((bitLen n : Nat) : Int) - 1 := wrap_i64_in (by omega) (by omega)
        obtain ⟨m0, hm0⟩ : ∃ m, (rawOf x).2[0]? = some m := ⟨_, List.getElem?_eq_getElem (by have : (rawOf x).2.length ≠ 0 := fun e => hx0 (rawOf_len0.1 e); omega)⟩
        have hk0 : 0 < (rawOf x).2.length := (List.getElem?_eq_some_iff.1 hm0).1
        have e1 : (1 : Int) = x ^ (n / 2 ^ bitLen n) := by rw [Nat.div_eq_of_lt hbl.1, Int.pow_zero]
        have kP := k1
        rw [e1] at kP
        by_cases hl1 : (((rawOf x).2.length : Int) == 1) = true
        · have hone1 := hone m0 hm0 hl1
          repeat first | refine Wp_seq ?_ | refine Wp_region tm_mixed ?_ | refine AW_move rfl rfl ?_ | refine AW_assign rfl rfl ?_ | refine AW_quiet rfl (q_eqE rfl rfl hl1) ?_ | refine AW_quietg rfl rfl rfl rfl (q_eqE rfl rfl hone1) ?_ | refine AW_fieldAddrg rfl rfl rfl rfl tf_mag rfl rfl ?_ | refine AW_loadg rfl rfl rfl rfl ty_mag rfl rfl rfl rfl ?_ | refine AW_quietg rfl rfl rfl rfl (q_limbAt (k := 0) rfl rfl hk0 Tryz.underlying22 ts_limb) ?_ | refine AW_quietg rfl rfl rfl rfl (q_limbLoad rfl ty_limb hm0) ?_ | refine AW_fieldAddr rfl tf_mag rfl rfl ?_ | refine AW_load rfl ty_mag rfl rfl rfl rfl ?_ | refine AW_len rfl rfl Tryz.underlying22 ?_ | refine AW_pickT rfl rfl rfl ?_ | refine AW_nil (fun (h : false = true) => by cases h) ?_
          refine Wp_condF rfl ?_
          repeat first | refine Wp_seq ?_ | refine Wp_region tm_mixed ?_ | refine AW_move rfl rfl ?_ | refine AW_assign rfl rfl ?_ | refine AW_load rfl ty_num rfl rfl rfl rfl ?_ | refine AW_call rfl rfl (by first | exact kB) ?_ | refine AW_quiet rfl (q_subE rfl rfl hS1) ?_ | refine AW_quiet rfl (q_maxE rfl rfl hD) ?_ | refine AW_quiet rfl (q_divE rfl rfl (by omega) hQ) ?_ | refine AW_quiet rfl (q_gtE rfl rfl hGt) ?_ | refine AW_nil (fun (h : false = true) => by cases h) ?_
          refine Wp_condF rfl ?_
          repeat first | refine Wp_seq ?_ | refine Wp_region tm_mixed ?_ | refine AW_move rfl rfl ?_ | refine AW_assign rfl rfl ?_ | refine AW_call rfl rfl (by first | exact kL) ?_ | refine AW_quiet rfl (q_convE rfl Tryz.underlying3 Tryz.underlying118 hC) ?_ | refine AW_quiet rfl (q_subE rfl rfl hS2) ?_ | refine AW_nil (fun (h : false = true) => by cases h) ?_ | refine Wp_block ?_ | refine Wp_skip ?_
          refine Wp_loop (fun j : Nat => ⟨[(1, .val (aI (n : Int))), (2, .val (.one (.ptr 0 0))), (4, .val (.one (.ptr 1 0))), (6, .val (.one (.ptr 2 0))), (7, .val (aI ((j : Int) - 1)))],
            [(0, 24, [.b (rawOf x).1, .st (magP (rawOf x).2)]), (1, 24, [.b false, .st (magP [])]), (2, 24, [.b (rawOf (x ^ (n / 2 ^ j))).1, .st (magP (rawOf (x ^ (n / 2 ^ j))).2)])], 3⟩) (fun j => j ≤ bitLen n) (fun j => j) (bitLen n) (Nat.le_refl _) (le_of ⟨rfl, rfl, rfl, rfl, rfl, trivial⟩ ⟨rfl, rfl, by dsimp only; rw [← e1]; rfl, trivial⟩ rfl) ?_
          intro j hj
          repeat first | refine Wp_seq ?_ | refine Wp_region tm_mixed ?_ | refine AW_move rfl rfl ?_ | refine AW_ge rfl rfl rfl ?_ | refine AW_nil (fun (h : false = true) => by cases h) ?_
          refine Wp_cond rfl (fun hc => ?_) (fun hc => ?_)
          · have hj0 : 0 < j := by have := of_decide_eq_true hc; omega
            obtain ⟨i, rfl⟩ : ∃ i, j = i + 1 := ⟨j - 1, by omega⟩
            have ei : ((i + 1 : Nat) : Int) - 1 = (i : Int) := by omega
            rw [ei]
            have hstep := pow_bit x n i
            have hq1 : n / 2 ^ (i + 1) ≤ 24 := Nat.le_trans (Nat.div_le_self _ _) (by omega)
            have hl2 := lc_powZ (n := n / 2 ^ (i + 1)) hx (by omega)
            obtain ⟨X, hX⟩ : ∃ X, x ^ (n / 2 ^ (i + 1)) = X := ⟨_, rfl⟩
            rw [hX] at hstep hl2 ⊢
            have lX : lc X.natAbs ≤ 150 := by omega
            have q1 := ct_Square0 X (by omega)
            have lX2 := lc_times (x := X) (y := X) lX lX
            have q2 := ct_Mul0 (X * X) x (by omega) (by omega) (by omega)
            have hA : IntKind.i64.wrap ((i : Int) - 1) = (i : Int) - 1 := wrap_i64_in (by omega) (by omega)
            have hn2 : n / 2 ^ i ≤ n := Nat.div_le_self _ _
            rcases Nat.mod_two_eq_zero_or_one (n / 2 ^ i) with hb2 | hb2
            · rw [if_neg (by omega)] at hstep
              rw [← hstep] at q1
              repeat first | refine Wp_seq ?_ | refine Wp_region tm_mixed ?_ | refine AW_move rfl rfl ?_ | refine AW_assign rfl rfl ?_ | refine AW_load rfl ty_num rfl rfl rfl rfl ?_ | refine AW_store ty_num rfl rfl rfl rfl rfl rfl rfl ?_ | refine AW_extract rfl rfl rfl ?_ | refine AW_call rfl rfl (by first | exact q1) ?_ | refine AW_ne rfl rfl rfl ?_ | refine AW_nil (fun (h : false = true) => by cases h) ?_ | refine Wp_block ?_ | refine Wp_skip ?_
              refine Wp_condF rfl ?_
              repeat first | refine Wp_seq ?_ | refine Wp_region tm_mixed ?_ | refine AW_move rfl rfl ?_ | refine AW_quiet rfl (q_shr rfl rfl (by show i ≤ 64; omega) rfl) ?_ | refine AW_quiet rfl (q_andI rfl rfl (by omega) hb2) ?_ | refine AW_eq rfl rfl rfl ?_ | refine AW_nil (fun (h : false = true) => by cases h) ?_ | refine Wp_skip ?_
              refine Wp_condT rfl ?_
              repeat first | refine Wp_region tm_mixed ?_ | refine AW_move rfl rfl ?_ | refine AW_assign rfl rfl ?_ | refine AW_quiet rfl (q_subE rfl rfl hA) ?_ | refine AW_nil (fun (h : false = true) => by cases h) ?_ | refine Wp_exit ?_
              exact ⟨i, by show i ≤ bitLen n; omega, le_of ⟨rfl, rfl, rfl, rfl, rfl, trivial⟩ ⟨rfl, rfl, rfl, trivial⟩ rfl, by show i < i + 1; omega⟩
            · rw [if_pos hb2] at hstep
              rw [← hstep] at q2
              repeat first | refine Wp_seq ?_ | refine Wp_region tm_mixed ?_ | refine AW_move rfl rfl ?_ | refine AW_assign rfl rfl ?_ | refine AW_load rfl ty_num rfl rfl rfl rfl ?_ | refine AW_store ty_num rfl rfl rfl rfl rfl rfl rfl ?_ | refine AW_extract rfl rfl rfl ?_ | refine AW_call rfl rfl (by first | exact q1) ?_ | refine AW_ne rfl rfl rfl ?_ | refine AW_nil (fun (h : false = true) => by cases h) ?_ | refine Wp_block ?_ | refine Wp_skip ?_
              refine Wp_condF rfl ?_
              repeat first | refine Wp_seq ?_ | refine Wp_region tm_mixed ?_ | refine AW_move rfl rfl ?_ | refine AW_quiet rfl (q_shr rfl rfl (by show i ≤ 64; omega) rfl) ?_ | refine AW_quiet rfl (q_andI rfl rfl (by omega) hb2) ?_ | refine AW_eq rfl rfl rfl ?_ | refine AW_nil (fun (h : false = true) => by cases h) ?_ | refine Wp_skip ?_
              refine Wp_condF rfl ?_
              repeat first | refine Wp_seq ?_ | refine Wp_region tm_mixed ?_ | refine AW_move rfl rfl ?_ | refine AW_assign rfl rfl ?_ | refine AW_load rfl ty_num rfl rfl rfl rfl ?_ | refine AW_store ty_num rfl rfl rfl rfl rfl rfl rfl ?_ | refine AW_extract rfl rfl rfl ?_ | refine AW_call rfl rfl (by first | exact q2) ?_ | refine AW_ne rfl rfl rfl ?_ | refine AW_nil (fun (h : false = true) => by cases h) ?_ | refine Wp_skip ?_
              refine Wp_condF rfl ?_
              repeat first | refine Wp_region tm_mixed ?_ | refine AW_move rfl rfl ?_ | refine AW_assign rfl rfl ?_ | refine AW_quiet rfl (q_subE rfl rfl hA) ?_ | refine AW_nil (fun (h : false = true) => by cases h) ?_ | refine Wp_skip ?_
              exact ⟨i, by show i ≤ bitLen n; omega, le_of ⟨rfl, rfl, rfl, rfl, rfl, trivial⟩ ⟨rfl, rfl, rfl, trivial⟩ rfl, by show i < i + 1; omega⟩
          · have hj0 : j = 0 := by have := of_decide_eq_false hc; omega
            subst hj0
            repeat first | refine Wp_seq ?_ | refine Wp_region tm_mixed ?_ | refine AW_assign rfl rfl ?_ | refine AW_load rfl ty_num rfl rfl rfl rfl ?_ | refine AW_store ty_num rfl rfl rfl rfl rfl rfl rfl ?_ | refine AW_nil (fun (h : false = true) => by cases h) ?_ | refine Wp_exit ?_ | refine Wp_ret ?_
            exact ⟨.inr rfl, _, .cell _ _ _ _ _ _ _ _ _ _ _ ty_num rfl rfl rfl (.tmp _ _ _ _ rfl .nil), by rw [Nat.pow_zero, Nat.div_one]; rfl⟩
        · have hl1 : (((rawOf x).2.length : Int) == 1) = false := by simpa using hl1
          repeat first | refine Wp_seq ?_ | refine Wp_region tm_mixed ?_ | refine AW_move rfl rfl ?_ | refine AW_assign rfl rfl ?_ | refine AW_quiet rfl (q_eqE rfl rfl hl1) ?_ | refine AW_fieldAddr rfl tf_mag rfl rfl ?_ | refine AW_load rfl ty_mag rfl rfl rfl rfl ?_ | refine AW_len rfl rfl Tryz.underlying22 ?_ | refine AW_pickF rfl rfl rfl ?_ | refine AW_skip rfl rfl rfl rfl ?_ | refine AW_nil (fun (h : false = true) => by cases h) ?_
          refine Wp_condF rfl ?_
          repeat first | refine Wp_seq ?_ | refine Wp_region tm_mixed ?_ | refine AW_move rfl rfl ?_ | refine AW_assign rfl rfl ?_ | refine AW_load rfl ty_num rfl rfl rfl rfl ?_ | refine AW_call rfl rfl (by first | exact kB) ?_ | refine AW_quiet rfl (q_subE rfl rfl hS1) ?_ | refine AW_quiet rfl (q_maxE rfl rfl hD) ?_ | refine AW_quiet rfl (q_divE rfl rfl (by omega) hQ) ?_ | refine AW_quiet rfl (q_gtE rfl rfl hGt) ?_ | refine AW_nil (fun (h : false = true) => by cases h) ?_
          refine Wp_condF rfl ?_
          repeat first | refine Wp_seq ?_ | refine Wp_region tm_mixed ?_ | refine AW_move rfl rfl ?_ | refine AW_assign rfl rfl ?_ | refine AW_call rfl rfl (by first | exact kL) ?_ | refine AW_quiet rfl (q_convE rfl Tryz.underlying3 Tryz.underlying118 hC) ?_ | refine AW_quiet rfl (q_subE rfl rfl hS2) ?_ | refine AW_nil (fun (h : false = true) => by cases h) ?_ | refine Wp_block ?_ | refine Wp_skip ?_
          refine Wp_loop (fun j : Nat => ⟨[(1, .val (aI (n : Int))), (2, .val (.one (.ptr 0 0))), (4, .val (.one (.ptr 1 0))), (6, .val (.one (.ptr 2 0))), (7, .val (aI ((j : Int) - 1)))],
            [(0, 24, [.b (rawOf x).1, .st (magP (rawOf x).2)]), (1, 24, [.b false, .st (magP [])]), (2, 24, [.b (rawOf (x ^ (n / 2 ^ j))).1, .st (magP (rawOf (x ^ (n / 2 ^ j))).2)])], 3⟩) (fun j => j ≤ bitLen n) (fun j => j) (bitLen n) (Nat.le_refl _) (le_of ⟨rfl, rfl, rfl, rfl, rfl, trivial⟩ ⟨rfl, rfl, by dsimp only; rw [← e1]; rfl, trivial⟩ rfl) ?_
          intro j hj
          repeat first | refine Wp_seq ?_ | refine Wp_region tm_mixed ?_ | refine AW_move rfl rfl ?_ | refine AW_ge rfl rfl rfl ?_ | refine AW_nil (fun (h : false = true) => by cases h) ?_
          refine Wp_cond rfl (fun hc => ?_) (fun hc => ?_)
          · have hj0 : 0 < j := by have := of_decide_eq_true hc; omega
            obtain ⟨i, rfl⟩ : ∃ i, j = i + 1 := ⟨j - 1, by omega⟩
            have ei : ((i + 1 : Nat) : Int) - 1 = (i : Int) := by omega
            rw [ei]
            have hstep := pow_bit x n i
            have hq1 : n / 2 ^ (i + 1) ≤ 24 := Nat.le_trans (Nat.div_le_self _ _) (by omega)
            have hl2 := lc_powZ (n := n / 2 ^ (i + 1)) hx (by omega)
            obtain ⟨X, hX⟩ : ∃ X, x ^ (n / 2 ^ (i + 1)) = X := ⟨_, rfl⟩
            rw [hX] at hstep hl2 ⊢
            have lX : lc X.natAbs ≤ 150 := by omega
            have q1 := ct_Square0 X (by omega)
            have lX2 := lc_times (x := X) (y := X) lX lX
            have q2 := ct_Mul0 (X * X) x (by omega) (by omega) (by omega)
            have hA : IntKind.i64.wrap ((i : Int) - 1) = (i : Int) - 1 := wrap_i64_in (by omega) (by omega)
            have hn2 : n / 2 ^ i ≤ n := Nat.div_le_self _ _
            rcases Nat.mod_two_eq_zero_or_one (n / 2 ^ i) with hb2 | hb2
            · rw [if_neg (by omega)] at hstep
              rw [← hstep] at q1
              repeat first | refine Wp_seq ?_ | refine Wp_region tm_mixed ?_ | refine AW_move rfl rfl ?_ | refine AW_assign rfl rfl ?_ | refine AW_load rfl ty_num rfl rfl rfl rfl ?_ | refine AW_store ty_num rfl rfl rfl rfl rfl rfl rfl ?_ | refine AW_extract rfl rfl rfl ?_ | refine AW_call rfl rfl (by first | exact q1) ?_ | refine AW_ne rfl rfl rfl ?_ | refine AW_nil (fun (h : false = true) => by cases h) ?_ | refine Wp_block ?_ | refine Wp_skip ?_
              refine Wp_condF rfl ?_
              repeat first | refine Wp_seq ?_ | refine Wp_region tm_mixed ?_ | refine AW_move rfl rfl ?_ | refine AW_quiet rfl (q_shr rfl rfl (by show i ≤ 64; omega) rfl) ?_ | refine AW_quiet rfl (q_andI rfl rfl (by omega) hb2) ?_ | refine AW_eq rfl rfl rfl ?_ | refine AW_nil (fun (h : false = true) => by cases h) ?_ | refine Wp_skip ?_
              refine Wp_condT rfl ?_
              repeat first | refine Wp_region tm_mixed ?_ | refine AW_move rfl rfl ?_ | refine AW_assign rfl rfl ?_ | refine AW_quiet rfl (q_subE rfl rfl hA) ?_ | refine AW_nil (fun (h : false = true) => by cases h) ?_ | refine Wp_exit ?_
              exact ⟨i, by show i ≤ bitLen n; omega, le_of ⟨rfl, rfl, rfl, rfl, rfl, trivial⟩ ⟨rfl, rfl, rfl, trivial⟩ rfl, by show i < i + 1; omega⟩
            · rw [if_pos hb2] at hstep
              rw [← hstep] at q2
              repeat first | refine Wp_seq ?_ | refine Wp_region tm_mixed ?_ | refine AW_move rfl rfl ?_ | refine AW_assign rfl rfl ?_ | refine AW_load rfl ty_num rfl rfl rfl rfl ?_ | refine AW_store ty_num rfl rfl rfl rfl rfl rfl rfl ?_ | refine AW_extract rfl rfl rfl ?_ | refine AW_call rfl rfl (by first | exact q1) ?_ | refine AW_ne rfl rfl rfl ?_ | refine AW_nil (fun (h : false = true) => by cases h) ?_ | refine Wp_block ?_ | refine Wp_skip ?_
              refine Wp_condF rfl ?_
              repeat first | refine Wp_seq ?_ | refine Wp_region tm_mixed ?_ | refine AW_move rfl rfl ?_ | refine AW_quiet rfl (q_shr rfl rfl (by show i ≤ 64; omega) rfl) ?_ | refine AW_quiet rfl (q_andI rfl rfl (by omega) hb2) ?_ | refine AW_eq rfl rfl rfl ?_ | refine AW_nil (fun (h : false = true) => by cases h) ?_ | refine Wp_skip ?_
              refine Wp_condF rfl ?_
              repeat first | refine Wp_seq ?_ | refine Wp_region tm_mixed ?_ | refine AW_move rfl rfl ?_ | refine AW_assign rfl rfl ?_ | refine AW_load rfl ty_num rfl rfl rfl rfl ?_ | refine AW_store ty_num rfl rfl rfl rfl rfl rfl rfl ?_ | refine AW_extract rfl rfl rfl ?_ | refine AW_call rfl rfl (by first | exact q2) ?_ | refine AW_ne rfl rfl rfl ?_ | refine AW_nil (fun (h : false = true) => by cases h) ?_ | refine Wp_skip ?_
              refine Wp_condF rfl ?_
              repeat first | refine Wp_region tm_mixed ?_ | refine AW_move rfl rfl ?_ | refine AW_assign rfl rfl ?_ | refine AW_quiet rfl (q_subE rfl rfl hA) ?_ | refine AW_nil (fun (h : false = true) => by cases h) ?_ | refine Wp_skip ?_
              exact ⟨i, by show i ≤ bitLen n; omega, le_of ⟨rfl, rfl, rfl, rfl, rfl, trivial⟩ ⟨rfl, rfl, rfl, trivial⟩ rfl, by show i < i + 1; omega⟩
          · have hj0 : j = 0 := by have := of_decide_eq_false hc; omega
            subst hj0
            repeat first | refine Wp_seq ?_ | refine Wp_region tm_mixed ?_ | refine AW_assign rfl rfl ?_ | refine AW_load rfl ty_num rfl rfl rfl rfl ?_ | refine AW_store ty_num rfl rfl rfl rfl rfl rfl rfl ?_ | refine AW_nil (fun (h : false = true) => by cases h) ?_ | refine Wp_exit ?_ | refine Wp_ret ?_
            exact ⟨.inr rfl, _, .cell _ _ _ _ _ _ _ _ _ _ _ ty_num rfl rfl rfl (.tmp _ _ _ _ rfl .nil), by rw [Nat.pow_zero, Nat.div_one]; rfl⟩
set_option maxHeartbeats 2000000 in
set_option maxRecDepth 100000 in
theorem ct_PowerPlain (x y : Raw) (n : Int) (hx : Small x.2) (hy : Small y.2) : Ct Tryz.prog 12 [aNum x, aNum y, .val (aI n)] (.val (aB true)) := by
  refine ct_of_wp [.tmp 6] [(0, aNum x), (1, aNum y), (2, .val (aI n))] 53 Tryz.func12 rfl rfl rfl rfl rfl rfl rfl rfl ?_
  intro G0 w0
  have kA := ct_awake21
  obtain ⟨A, lA, k1⟩ := ct_known x hx 6 (by decide) (by decide)
  obtain ⟨M, h0, lM, k2⟩ := ct_lmodulus y hy 6 (by decide) (by decide)
  have k3 := ct_Pick n 24 (by decide) (by decide)
  obtain ⟨N, hN⟩ : ∃ N : Nat, n % ((24 : Nat) : Int) = (N : Int) := ⟨(n % 24).toNat, by have := Int.emod_nonneg n (show (24 : Int) ≠ 0 by decide); show n % 24 = _; omega⟩
  have hN2 : N < 24 := by have := Int.emod_lt_of_pos n (show (0 : Int) < 24 by decide); have hN : n % 24 = (N : Int) := hN; omega
  rw [hN] at k3
  have k4 := ct_tPower A N lA hN2
  have hl := lc_powZ (n := N) lA (by decide)
  have hl2 : lc (A ^ N).natAbs ≤ 150 := by have : N * 6 ≤ 23 * 6 := Nat.mul_le_mul_right 6 (by omega); omega
  have k5 := ct_ModP (A ^ N) M (by omega) (by omega) h0
  have k6 := ct_limbOf (N : Int) (by omega) (by omega)
  have lN : lc (N : Int).natAbs ≤ 1 := lc_small (by rw [Int.natAbs_natCast]; omega)
  have k7 := ct_pMod A (N : Int) M (by omega) (by omega) (by omega) h0 (.inl (by omega))
  have e1 : powE A (N : Int) M = A ^ N % M := by unfold powE; rw [if_neg (by omega), Int.natAbs_natCast, pow_base]
  rw [e1] at k7
  have lr := pow_lc (a := A) (n := N) h0 lM
  have k8 := ct_lisZ (A ^ N % M) 0 (by omega)
  repeat first | refine Wp_seq ?_ | refine Wp_region tm_mixed ?_ | refine AW_assign rfl rfl ?_ | refine AW_box rfl rfl (row := true) rfl (fun h => by cases h) rfl ?_ | refine AW_not rfl rfl ?_ | refine AW_call rfl rfl (by first | exact kA) ?_ | refine AW_nil (fun (h : false = true) => by cases h) ?_
  refine Wp_condF rfl ?_
  repeat first | refine Wp_seq ?_ | refine Wp_region tm_mixed ?_ | refine AW_move rfl rfl ?_ | refine AW_assign rfl rfl ?_ | refine AW_load rfl ty_num rfl rfl rfl rfl ?_ | refine AW_store ty_num rfl rfl rfl rfl rfl rfl rfl ?_ | refine AW_extract rfl rfl rfl ?_ | refine AW_alloc rfl tz_num ?_ | refine AW_call rfl rfl (by first | exact k1 | exact k2 | exact k3 | exact k4 | exact k5 | exact k6 | exact k7 | exact k8) ?_ | refine AW_pickT rfl rfl rfl ?_ | refine AW_moveg rfl rfl rfl rfl rfl ?_ | refine AW_eqg rfl rfl rfl rfl rfl rfl ?_ | refine AW_eq rfl rfl rfl ?_ | refine AW_loadg rfl rfl rfl rfl ty_num rfl rfl rfl rfl ?_ | refine AW_callg rfl rfl rfl rfl rfl (by first | exact k1 | exact k2 | exact k3 | exact k4 | exact k5 | exact k6 | exact k7 | exact k8) ?_ | refine AW_nil (fun (h : false = true) => by cases h) ?_ | refine AW_nil (fun (_ : true = true) => by kernel_rfl) ?_ | refine Wp_skip ?_ | refine Wp_ret ?_
  exact ⟨.inr rfl, _, .tmp _ _ _ _ rfl .nil, rfl⟩
end Go.Proofs.YtjbagikfogejnaaGreatDoor
/- What the bound of the second form gives: records of a list are not longer. -/
namespace Go.Proofs.YtjbagikfogejnaaGreatDoor
open Go.ChangeShapes Go.WideShapes Go.ChangeAt Go.RowKit Go.Deep
theorem bulk_one {H : Type} (d : DataW H) : 1 ≤ Rows.uptoBulk d := by
  cases d with
  | lit l => cases l <;> simp [Rows.uptoBulk]
  | nil => simp [Rows.uptoBulk]
  | ptr d => simp [Rows.uptoBulk]
  | slice elems spare => simp [Rows.uptoBulk]
  | agg parts => simp [Rows.uptoBulk]
  | iface t d => simp [Rows.uptoBulk]
  | map entries => simp [Rows.uptoBulk]
  | held h => simp [Rows.uptoBulk]
theorem bulk_part {H : Type} {d : DataW H} {l : List (DataW H)} (h : d ∈ l) : Rows.uptoBulk d ≤ Rows.uptoBulkAll l := by
  induction l with
  | nil => cases h
  | cons x r ih =>
    simp only [Rows.uptoBulkAll]
    cases List.mem_cons.1 h with
    | inl e => subst e; omega
    | inr e => have := ih e; omega
theorem bulk_len {H : Type} (l : List (DataW H)) : l.length ≤ Rows.uptoBulkAll l := by
  induction l with
  | nil => simp [Rows.uptoBulkAll]
  | cons x r ih => have := bulk_one x; simp only [Rows.uptoBulkAll, List.length_cons]; omega
theorem poly_small {w : World} {B : Nat} {A : Option Addr} {xs : List Raw} (h : Poly w B A xs) : ∀ x ∈ xs, Small x.2 := by
  intro x hx
  obtain ⟨j, hj⟩ := List.getElem?_of_mem hx
  obtain ⟨ad, Am, l, c, hA, hb, hc0, hc1, hl, _, hlim⟩ := h.at_ (List.getElem?_eq_some_iff.1 hj).1
  have hx' : xs.getD j (false, []) = x := by simp [List.getD_eq_getElem?_getD, hj]
  rw [hx'] at hlim
  exact hlim.small
/-- A world for the witness: the table as its initialiser lays it. -/
noncomputable def laidWorld (os : Os) : World :=
  { World.holding Tryz.prog os ⟨#[], #[], []⟩ with heap := (World.holding Tryz.prog os ⟨#[], #[], []⟩).heap.modify 0 fun
      | .cells _ t frozen => .cells (tz64.map fun (n : Nat) => Value.int .u8 (n : Int)).toArray t frozen
      | o => o }
section
variable {H : Type} {enc : TypeId × Value → H}
theorem limbs_bulk {W : World} {v : Value} {x : DataW H × List MemPlace} {n : Nat} {A : Option Addr} {l c : Nat} (h : DataW.trod enc Tryz.prog W 0 (fun _ => true) true n 22 [v] = some x) (e : v = .slice A l c) : l ≤ Rows.uptoBulk x.1 := by
  rcases open_ints (k := .u64) Tryz.underlying22 Tryz.underlying41 cells_u64 h with ⟨e1, e2⟩ | ⟨a, len, cap, zs, e1, _, hl, hm, hzl, e2, hc, hwf⟩
  · injection e1 with e1
    rw [e] at e1
    cases e1
    exact Nat.zero_le _
  · injection e1 with e1
    rw [e] at e1
    cases e1
    simp only [if_true] at hzl
    have h1 := bulk_len (H := H) (lits .u64 (zs.take l))
    have h2 : (lits (H := H) .u64 (zs.take l)).length = l := by simp [lits]; omega
    rw [e2]
    simp only [Rows.uptoBulk]
    omega
theorem open_polyB {W : World} {A0 : Option Addr} {l0 c0 : Nat} {d : DataW H} {ps : List MemPlace} {B : Nat} (h : DataW.Trod enc Tryz.prog W 0 (fun _ => true) true 35 (.slice A0 l0 c0) d ps) (hB : Rows.uptoBulk d ≤ B) : ∃ xs : List Raw, l0 = xs.length ∧ l0 ≤ c0 ∧ Poly W W.heap.size A0 xs ∧ ∀ x ∈ xs, x.2.length ≤ B := by
  obtain ⟨xs, h1, h2, h3⟩ := open_poly h
  refine ⟨xs, h1, h2, h3, fun x hx => ?_⟩
  obtain ⟨j, hj⟩ := List.getElem?_of_mem hx
  have hjl := (List.getElem?_eq_some_iff.1 hj).1
  obtain ⟨ad, Am, l, c, hA, hb, hc0, hc1, hl, _, _⟩ := h3.at_ hjl
  have hx' : xs.getD j (false, []) = x := by simp [List.getD_eq_getElem?_getD, hj]
  rw [hx'] at hl
  obtain ⟨fuel, hf⟩ := h
  rcases open_slice_pairs Tryz.underlying35 Tryz.underlying24 cells_rec rfl rfl cells_bool cells_limbs hf with ⟨e, _⟩ | ⟨a, len, cap, m, n, V0, V1, D0, D1, P0, P1, e, _, hl2, hm, hmm, hd, hc⟩
  · simp [Value.cells] at e
    obtain ⟨rfl, rfl, rfl⟩ := e
    omega
  · simp [Value.cells] at e
    obtain ⟨rfl, rfl, rfl⟩ := e
    simp only [if_true] at hmm
    subst hmm
    obtain ⟨g0, g1, t0, t1⟩ := hc j (by omega)
    cases hA
    have e1 : V1 j = .slice Am l c := by
      have : W.cell? ⟨(ad.add (j * 2)).block, (ad.add (j * 2)).off + 1, none⟩ = some (V1 j) := by
        rw [← g1, show ad.add (j * 2 + 1) = ⟨(ad.add (j * 2)).block, (ad.add (j * 2)).off + 1, none⟩ by
          rw [add_succ]
          unfold Addr.add
          by_cases hj0 : j * 2 = 0
          · rw [if_pos hj0, hj0]
          · rw [if_neg hj0]; rfl]
      rw [this] at hc1
      exact Option.some.inj hc1
    have hlim : l ≤ Rows.uptoBulk (D1 j) := limbs_bulk t1 e1
    have hd2 : d = .slice ((List.range l0).map fun i => .agg [D0 i, D1 i]) ((List.range (m - l0)).map fun j => .agg [D0 (l0 + j), D1 (l0 + j)]) := congrArg Prod.fst hd
    have h4 : Rows.uptoBulk (.agg [D0 j, D1 j]) ≤ Rows.uptoBulkAll ((List.range l0).map fun i => .agg [D0 i, D1 i]) := bulk_part (List.mem_map.2 ⟨j, by simp; omega, rfl⟩)
    rw [hd2] at hB
    simp only [Rows.uptoBulk, Rows.uptoBulkAll] at hB h4
    omega
end
end Go.Proofs.YtjbagikfogejnaaGreatDoor
