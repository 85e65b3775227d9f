import Derived.Test.YtonbhpadoplpkaaGreatRc
import Derived.Test.YtonbhpadoplpkaaGreatProg
import Derived.WalkKit
import Derived.Laws.OwnMore
import Derived.Deep.Draws
import Derived.Deep.OwnRows
import Derived.Deep.LoopGhost
import Derived.Deep.QuietTactic
import Derived.BigQuiet
import Derived.Lib.Hide
import Derived.Maps.AppendAt
import Derived.Laws.Rows
import Derived.OneCell
import Derived.Shelf.Spec.BitsCarry
import Derived.Deep.DeepCutAuto
import Derived.Shelf.Small.Bits
import Derived.Shelf.Strconv.Itoa0
import Derived.Shelf.Bits.Mul64
import Derived.Lib.BitFns
import Derived.Deep.CutBlock
import Derived.BigRegion
import Derived.StillTailTactics
import Derived.Deep.AppendLies
import Derived.Orders
import Derived.Lib.SliceRun
import Derived.Deep.MidRow
import Derived.BigCall
import Derived.Great.BuildSlice
import Derived.Deep.RegionWith
import Derived.WalkMore
import Derived.Laws.EntriesVeiled
import Derived.Laws.CopyOwn
import Derived.Test.YtonbhpadoplpkaaGreatRows
import Derived.ProofKit
import Derived.OpenShut
import Derived.Deep.SlicePairs
import Derived.WideKeyArgs
/- Of: Gct, Lent, Ref9, Ref10, KitI, Copy, Kct, Kint, GcdP, Grun, Gof. -/
/- Contracts of the abstract machine: limb, times, divide, gcd. -/
namespace Go.Proofs.YtonbhpadoplpkaaGreat
open Go.RowKit Go.Deep
theorem ct_Right (x : Raw) : Ct Tryz.prog 37 [aNum x] (.val (aB (rightInt x))) :=
  ct1 Tryz.func37 rfl rfl rfl fun w u h => (raw_right u x w h).mono (by rintro e w' ⟨rfl, hb⟩; exact ⟨_, rfl, fun _ _ => rfl, hb⟩)
theorem ct_gzero (x : Raw) : Ct Tryz.prog 65 [aNum x] (.val (aB (decide (x.2.length = 0)))) :=
  ct1 Tryz.func65 rfl rfl rfl fun w u h => (gcd_zero u x w h).mono (by rintro e w' ⟨rfl, hb⟩; exact ⟨_, rfl, fun _ _ => rfl, hb⟩)
theorem rawOf_len0 {z : Int} : (rawOf z).2.length = 0 ↔ z = 0 := by
  show (limbs z.natAbs).length = 0 ↔ z = 0
  rw [List.length_eq_zero_iff, limbs_eq_nil]
  omega
abbrev aZ (z : Int) : AR := aNum (rawOf z)
abbrev zZ (z : Int) : AV := aInt (rawOf z)
theorem ct_gzeroT (z : Int) (h : z = 0) : Ct Tryz.prog 65 [aZ z] (.val (aB true)) := by
  have := ct_gzero (rawOf z)
  rwa [decide_eq_true (rawOf_len0.2 h)] at this
theorem ct_gzeroF (z : Int) (h : z ≠ 0) : Ct Tryz.prog 65 [aZ z] (.val (aB false)) := by
  have := ct_gzero (rawOf z)
  rwa [decide_eq_false (fun e => h (rawOf_len0.1 e))] at this
theorem ct_gsize (z : Int) (hl : lc z.natAbs ≤ 1099511627776) : Ct Tryz.prog 66 [aZ z] (aZ (z.natAbs : Int)) :=
  ct1 Tryz.func66 rfl rfl rfl fun w u h => (gcd_size u _ w h hl).mono (by
    rintro e w' ⟨v, rfl, h1, hb⟩
    refine ⟨v, rfl, fun G β => ok_of_rawV ?_, hb⟩
    have e : rawOf (z.natAbs : Int) = (false, (rawOf z).2) := by
      unfold rawOf
      rw [decide_eq_false (show ¬ ((z.natAbs : Int) < 0) by omega), Int.natAbs_natCast]
    rw [e]
    exact h1.rawV)
theorem ct_limbOf (n : Int) (h1 : -9223372036854775808 ≤ n) (h2 : n < 9223372036854775808) : Ct Tryz.prog 48 [.val (aI n)] (aZ n) where
  enters := fun vals w => enters_of Tryz.func48 rfl rfl vals w
  nop := rfl
  calls := by
    intro G β w vals _ ha
    rcases vals with _ | ⟨u, _ | ⟨v, vs⟩⟩
    · exact ha.elim
    · obtain ⟨hu, _⟩ := ha
      have hu : u = .int .i64 n := hu
      subst hu
      refine (limb_Of n w h1 h2).mono ?_
      rintro e w' ⟨v, rfl, h1, h2⟩
      exact ⟨v, rfl, ok_of_rawV h1.rawV, h2⟩
    · exact ha.2.elim
theorem ct_Neg (z : Int) (hl : lc z.natAbs ≤ 4096) : Ct Tryz.prog 64 [aZ z] (.tup [zZ (-z), aI 0]) :=
  ct1 Tryz.func64 rfl rfl rfl fun w u h => (limb_Neg u z w h.int hl).mono (by
    rintro e w' ⟨v, rfl, h1, hb⟩
    exact ⟨_, rfl, fun G β => tup_ok (vs := [_, _]) ⟨ok_of_rawV h1.rawV, rfl, trivial⟩, hb⟩)
theorem ct_Add (x y : Int) (hx : lc x.natAbs ≤ 4096) (hy : lc y.natAbs ≤ 4096) : Ct Tryz.prog 41 [aZ x, aZ y] (.tup [aInt (longR (x + y)), aI (longE (x + y))]) :=
  ct2 Tryz.func41 rfl rfl rfl fun w u v h k => (limb_Add u v x y w h.int k.int hx hy).mono (by
    rintro e w' ⟨r, rfl, h1, hb⟩
    exact ⟨_, rfl, fun G β => tup_ok (vs := [_, _]) ⟨ok_of_rawV h1.rawV, rfl, trivial⟩, hb⟩)
theorem ct_Add0 (x y : Int) (hx : lc x.natAbs ≤ 4096) (hy : lc y.natAbs ≤ 4096) (hs : lc (x + y).natAbs ≤ 4096) : Ct Tryz.prog 41 [aZ x, aZ y] (.tup [zZ (x + y), aI 0]) := by
  have h := ct_Add x y hx hy
  rwa [longR_ok hs, longE_ok hs] at h
theorem ct_Sub (x y : Int) (hx : lc x.natAbs ≤ 4096) (hy : lc y.natAbs ≤ 4096) : Ct Tryz.prog 47 [aZ x, aZ y] (.tup [aInt (longR (x - y)), aI (longE (x - y))]) :=
  ct2 Tryz.func47 rfl rfl rfl fun w u v h k => (limb_Sub u v x y w h.int k.int hx hy).mono (by
    rintro e w' ⟨r, rfl, h1, hb⟩
    exact ⟨_, rfl, fun G β => tup_ok (vs := [_, _]) ⟨ok_of_rawV h1.rawV, rfl, trivial⟩, hb⟩)
theorem ct_Sub0 (x y : Int) (hx : lc x.natAbs ≤ 4096) (hy : lc y.natAbs ≤ 4096) (hs : lc (x - y).natAbs ≤ 4096) : Ct Tryz.prog 47 [aZ x, aZ y] (.tup [zZ (x - y), aI 0]) := by
  have h := ct_Sub x y hx hy
  rwa [longR_ok hs, longE_ok hs] at h
theorem ct_Cmp (x y : Int) (hx : lc x.natAbs ≤ 4096) (hy : lc y.natAbs ≤ 4096) : Ct Tryz.prog 67 [aZ x, aZ y] (.tup [aI (cmpZ x y), aI 0]) :=
  ct2 Tryz.func67 rfl rfl rfl fun w u v h k => (limb_Cmp u v x y w h.int k.int hx hy).mono (by
    rintro e w' ⟨rfl, hb⟩
    exact ⟨_, rfl, fun G β => tup_ok (vs := [_, _]) ⟨rfl, rfl, trivial⟩, hb⟩)
theorem ct_Mul (x y : Int) (hx : lc x.natAbs ≤ 4096) (hy : lc y.natAbs ≤ 4096) : Ct Tryz.prog 40 [aZ x, aZ y] (.tup [aInt (longR (x * y)), aI (longE (x * y))]) :=
  ct2 Tryz.func40 rfl rfl rfl fun w u v h k => (times_Mul_any u v x y w h.int k.int hx hy).mono (by
    rintro e w' ⟨r, rfl, h1, hb⟩
    exact ⟨_, rfl, fun G β => tup_ok (vs := [_, _]) ⟨ok_of_rawV h1.rawV, rfl, trivial⟩, hb⟩)
theorem ct_Mul0 (x y : Int) (hx : lc x.natAbs ≤ 4096) (hy : lc y.natAbs ≤ 4096) (hs : lc x.natAbs + lc y.natAbs ≤ 4096) : Ct Tryz.prog 40 [aZ x, aZ y] (.tup [zZ (x * y), aI 0]) := by
  have h := ct_Mul x y hx hy
  have h3 : lc (x * y).natAbs ≤ 4096 := by rw [Int.natAbs_mul]; have := lc_mul x.natAbs y.natAbs; omega
  rwa [longR_ok h3, longE_ok h3] at h
theorem ct_Trunc (x y : Int) (hx : lc x.natAbs ≤ 1200) (hy : lc y.natAbs ≤ 1200) (h0 : y ≠ 0) : Ct Tryz.prog 14 [aZ x, aZ y] (.tup [zZ (x.tdiv y), zZ (x.tmod y), aI 0]) :=
  ct2 Tryz.func14 rfl rfl rfl fun w u v h k => (divide_Trunc u v x y w h.int k.int (by omega) (by omega) h0 (.inl hy)).mono (by
    rintro e w' ⟨p, q, rfl, h1, h2, _, hb⟩
    exact ⟨_, rfl, fun G β => tup_ok (vs := [_, _, _]) ⟨ok_of_rawV h1.rawV, ok_of_rawV h2.rawV, rfl, trivial⟩, hb⟩)
theorem ct_TruncN (m n : Nat) (hx : lc m ≤ 90) (hy : lc n ≤ 90) (h0 : n ≠ 0) : Ct Tryz.prog 14 [aZ (m : Int), aZ (n : Int)] (.tup [zZ ((m / n : Nat) : Int), zZ ((m % n : Nat) : Int), aI 0]) :=
  ct_Trunc (m : Int) (n : Int) (by rw [Int.natAbs_natCast]; omega) (by rw [Int.natAbs_natCast]; omega) (by omega)
theorem ct_Exact (x y : Int) (hx : lc x.natAbs ≤ 1200) (hy : lc y.natAbs ≤ 1200) (h0 : y ≠ 0) : Ct Tryz.prog 15 [aZ x, aZ y] (.tup [aInt (if x.tmod y = 0 then rawOf (x.tdiv y) else (false, [])), aB (decide (x.tmod y = 0)), aI 0]) :=
  ct2 Tryz.func15 rfl rfl rfl fun w u v h k => (divide_Exact u v x y w h.int k.int (by omega) (by omega) h0 (.inl hy)).mono (by
    rintro e w' ⟨p, rfl, h1, hb⟩
    exact ⟨_, rfl, fun G β => tup_ok (vs := [_, _, _]) ⟨ok_of_rawV h1.rawV, rfl, rfl, trivial⟩, hb⟩)
theorem ct_Exact0 (x y : Int) (hx : lc x.natAbs ≤ 1200) (hy : lc y.natAbs ≤ 1200) (h0 : y ≠ 0) (hm : x.tmod y = 0) : Ct Tryz.prog 15 [aZ x, aZ y] (.tup [zZ (x.tdiv y), aB true, aI 0]) := by
  have h := ct_Exact x y hx hy h0
  rwa [if_pos hm, decide_eq_true hm] at h
theorem ct_ExactN (x y : Int) (hx : lc x.natAbs ≤ 1200) (hy : lc y.natAbs ≤ 1200) (h0 : y ≠ 0) (hm : x.tmod y ≠ 0) : Ct Tryz.prog 15 [aZ x, aZ y] (.tup [aInt (false, []), aB false, aI 0]) := by
  have h := ct_Exact x y hx hy h0
  rwa [if_neg hm, decide_eq_false hm] at h
theorem ct_Mod (x y : Int) (hx : lc x.natAbs ≤ 1200) (hy : lc y.natAbs ≤ 1200) (h0 : y ≠ 0) : Ct Tryz.prog 16 [aZ x, aZ y] (.tup [aInt (modR x y), aI (modE y)]) :=
  ct2 Tryz.func16 rfl rfl rfl fun w u v h k => (divide_Mod u v x y w h.int k.int (by omega) (by omega) h0 (.inl hy)).mono (by
    rintro e w' ⟨p, rfl, h1, hb⟩
    exact ⟨_, rfl, fun G β => tup_ok (vs := [_, _]) ⟨ok_of_rawV h1.rawV, rfl, trivial⟩, hb⟩)
theorem ct_ModP (x y : Int) (hx : lc x.natAbs ≤ 1200) (hy : lc y.natAbs ≤ 1200) (h0 : 0 < y) : Ct Tryz.prog 16 [aZ x, aZ y] (.tup [zZ (x % y), aI 0]) := by
  have h := ct_Mod x y hx hy (by omega)
  have e1 : modR x y = rawOf (x % y) := by unfold modR; rw [if_neg (by omega), Int.fmod_eq_emod_of_nonneg _ (by omega)]
  have e2 : modE y = 0 := by unfold modE; rw [if_neg (by omega)]
  rwa [e1, e2] at h
theorem wrap_succ {k : Nat} (h : k ≤ 1000000000000) : IntKind.i64.wrap ((k : Int) + 1) = ((k + 1 : Nat) : Int) := by
  have h1 : ((k : Int) + 1) % (2 ^ IntKind.i64.bits : Int) = (k : Int) + 1 := by
    rw [show (2 ^ IntKind.i64.bits : Int) = 18446744073709551616 from rfl]
    exact Int.emod_eq_of_lt (by omega) (by omega)
  have h2 : ¬ ((k : Int) + 1 ≥ (2 ^ (IntKind.i64.bits - 1) : Int)) := by
    rw [show (2 ^ (IntKind.i64.bits - 1) : Int) = 9223372036854775808 from rfl]
    omega
  unfold IntKind.wrap
  simp only [h1, decide_eq_false h2, Bool.and_false, Bool.false_eq_true, if_false]
  omega
theorem ct_right (xs : List Raw) (hl : xs.length ≤ 1000) : Ct Tryz.prog 62 [.val (.one (.st (polyP xs)))] (.val (aB (xs.all rightInt))) := by
  refine ct_of_wp [.tmp 2] [(0, .val (.one (.st (polyP xs))))] 15 Tryz.func62 rfl rfl rfl rfl rfl rfl rfl rfl ?_
  intro G0 w0
  repeat first
    | refine Wp_seq ?_
    | refine Wp_region tm_mixed ?_
    | refine AW_move rfl rfl ?_
    | refine AW_assign rfl rfl ?_
    | refine AW_load rfl ty_num rfl rfl rfl rfl ?_
    | refine AW_store ty_num rfl rfl rfl rfl rfl rfl rfl ?_
    | refine AW_extract rfl rfl rfl ?_
    | refine AW_alloc rfl tz_num ?_
    | refine AW_box rfl rfl (row := true) rfl (fun h => by cases h) rfl ?_
    | refine AW_not rfl rfl ?_
    | refine AW_build rfl tb_num rfl ?_
    | refine AW_call rfl rfl (by first | exact ct_Right _) ?_
    | refine AW_ints rfl tu_nums ti_num ti_size ti_zero rfl rfl rfl (by first | exact .cons _ _ _ _ _ rfl (.cons _ _ _ _ _ rfl (.nil _)) | exact .cons _ _ _ _ _ rfl (.cons _ _ _ _ _ rfl (.cons _ _ _ _ _ rfl (.cons _ _ _ _ _ rfl (.nil _)))) | exact .cons _ _ _ _ _ rfl (.cons _ _ _ _ _ rfl (.cons _ _ _ _ _ rfl (.nil _))) | exact .cons _ _ _ _ _ rfl (.cons _ _ _ _ _ rfl (.cons _ _ _ _ _ rfl (.cons _ _ _ _ _ rfl (.cons _ _ _ _ _ rfl (.nil _)))))) ?_
  
    | refine AW_pickT rfl rfl rfl ?_
    | refine AW_pickF rfl rfl rfl ?_
    | refine AW_skip rfl rfl rfl rfl ?_
    | refine AW_pickTg rfl rfl rfl rfl rfl rfl ?_
    | refine AW_pickFg rfl rfl rfl rfl rfl rfl ?_
    | refine AW_moveg rfl rfl rfl rfl rfl ?_
    | refine AW_notg rfl rfl rfl rfl rfl ?_
    | refine AW_eqg rfl rfl rfl rfl rfl rfl ?_
    | refine AW_eq rfl rfl rfl ?_
    | refine AW_loadg rfl rfl rfl rfl ty_num rfl rfl rfl rfl ?_
    | refine AW_callg rfl rfl rfl rfl rfl (by first | exact ct_Right _) ?_
    | refine AW_nil (fun (h : false = true) => by cases h) ?_
    | refine AW_nil (fun (_ : true = true) => by kernel_rfl) ?_
    | refine Wp_block ?_
    | refine Wp_skip ?_
    | refine Wp_exit ?_
    | refine Wp_ret ?_
  refine AW_quiet rfl (q_lenPoly rfl rfl tu_nums) ?_
  repeat first
    | refine Wp_seq ?_
    | refine Wp_region tm_mixed ?_
    | refine AW_move rfl rfl ?_
    | refine AW_assign rfl rfl ?_
    | refine AW_load rfl ty_num rfl rfl rfl rfl ?_
    | refine AW_store ty_num rfl rfl rfl rfl rfl rfl rfl ?_
    | refine AW_extract rfl rfl rfl ?_
    | refine AW_alloc rfl tz_num ?_
    | refine AW_box rfl rfl (row := true) rfl (fun h => by cases h) rfl ?_
    | refine AW_not rfl rfl ?_
    | refine AW_build rfl tb_num rfl ?_
    | refine AW_call rfl rfl (by first | exact ct_Right _) ?_
    | refine AW_ints rfl tu_nums ti_num ti_size ti_zero rfl rfl rfl (by first | exact .cons _ _ _ _ _ rfl (.cons _ _ _ _ _ rfl (.nil _)) | exact .cons _ _ _ _ _ rfl (.cons _ _ _ _ _ rfl (.cons _ _ _ _ _ rfl (.cons _ _ _ _ _ rfl (.nil _)))) | exact .cons _ _ _ _ _ rfl (.cons _ _ _ _ _ rfl (.cons _ _ _ _ _ rfl (.nil _))) | exact .cons _ _ _ _ _ rfl (.cons _ _ _ _ _ rfl (.cons _ _ _ _ _ rfl (.cons _ _ _ _ _ rfl (.cons _ _ _ _ _ rfl (.nil _)))))) ?_
  
    | refine AW_pickT rfl rfl rfl ?_
    | refine AW_pickF rfl rfl rfl ?_
    | refine AW_skip rfl rfl rfl rfl ?_
    | refine AW_pickTg rfl rfl rfl rfl rfl rfl ?_
    | refine AW_pickFg rfl rfl rfl rfl rfl rfl ?_
    | refine AW_moveg rfl rfl rfl rfl rfl ?_
    | refine AW_notg rfl rfl rfl rfl rfl ?_
    | refine AW_eqg rfl rfl rfl rfl rfl rfl ?_
    | refine AW_eq rfl rfl rfl ?_
    | refine AW_loadg rfl rfl rfl rfl ty_num rfl rfl rfl rfl ?_
    | refine AW_callg rfl rfl rfl rfl rfl (by first | exact ct_Right _) ?_
    | refine AW_nil (fun (h : false = true) => by cases h) ?_
    | refine AW_nil (fun (_ : true = true) => by kernel_rfl) ?_
    | refine Wp_block ?_
    | refine Wp_skip ?_
    | refine Wp_exit ?_
    | refine Wp_ret ?_
  refine Wp_loop (fun k : Nat => ⟨[(5, .val (.one (.st (polyP xs)))), (6, .val (aI (xs.length : Int))), (7, .val (aI (k : Int)))], [], 0⟩) (fun k => k ≤ xs.length ∧ (xs.take k).all rightInt = true) (fun k => xs.length - k) 0 ⟨by omega, by simp⟩ (le_of ⟨rfl, rfl, rfl, trivial⟩ trivial rfl) ?_
  rintro k ⟨hk, hall⟩
  repeat first
    | refine Wp_seq ?_
    | refine Wp_region tm_mixed ?_
    | refine AW_move rfl rfl ?_
    | refine AW_assign rfl rfl ?_
    | refine AW_load rfl ty_num rfl rfl rfl rfl ?_
    | refine AW_store ty_num rfl rfl rfl rfl rfl rfl rfl ?_
    | refine AW_extract rfl rfl rfl ?_
    | refine AW_alloc rfl tz_num ?_
    | refine AW_box rfl rfl (row := true) rfl (fun h => by cases h) rfl ?_
    | refine AW_not rfl rfl ?_
    | refine AW_build rfl tb_num rfl ?_
    | refine AW_call rfl rfl (by first | exact ct_Right _) ?_
    | refine AW_ints rfl tu_nums ti_num ti_size ti_zero rfl rfl rfl (by first | exact .cons _ _ _ _ _ rfl (.cons _ _ _ _ _ rfl (.nil _)) | exact .cons _ _ _ _ _ rfl (.cons _ _ _ _ _ rfl (.cons _ _ _ _ _ rfl (.cons _ _ _ _ _ rfl (.nil _)))) | exact .cons _ _ _ _ _ rfl (.cons _ _ _ _ _ rfl (.cons _ _ _ _ _ rfl (.nil _))) | exact .cons _ _ _ _ _ rfl (.cons _ _ _ _ _ rfl (.cons _ _ _ _ _ rfl (.cons _ _ _ _ _ rfl (.cons _ _ _ _ _ rfl (.nil _)))))) ?_
  
    | refine AW_pickT rfl rfl rfl ?_
    | refine AW_pickF rfl rfl rfl ?_
    | refine AW_skip rfl rfl rfl rfl ?_
    | refine AW_pickTg rfl rfl rfl rfl rfl rfl ?_
    | refine AW_pickFg rfl rfl rfl rfl rfl rfl ?_
    | refine AW_moveg rfl rfl rfl rfl rfl ?_
    | refine AW_notg rfl rfl rfl rfl rfl ?_
    | refine AW_eqg rfl rfl rfl rfl rfl rfl ?_
    | refine AW_eq rfl rfl rfl ?_
    | refine AW_loadg rfl rfl rfl rfl ty_num rfl rfl rfl rfl ?_
    | refine AW_callg rfl rfl rfl rfl rfl (by first | exact ct_Right _) ?_
    | refine AW_nil (fun (h : false = true) => by cases h) ?_
    | refine AW_nil (fun (_ : true = true) => by kernel_rfl) ?_
    | refine Wp_block ?_
    | refine Wp_skip ?_
    | refine Wp_exit ?_
    | refine Wp_ret ?_
  refine AW_quiet rfl (q_lt rfl rfl) ?_
  repeat first
    | refine Wp_seq ?_
    | refine Wp_region tm_mixed ?_
    | refine AW_move rfl rfl ?_
    | refine AW_assign rfl rfl ?_
    | refine AW_load rfl ty_num rfl rfl rfl rfl ?_
    | refine AW_store ty_num rfl rfl rfl rfl rfl rfl rfl ?_
    | refine AW_extract rfl rfl rfl ?_
    | refine AW_alloc rfl tz_num ?_
    | refine AW_box rfl rfl (row := true) rfl (fun h => by cases h) rfl ?_
    | refine AW_not rfl rfl ?_
    | refine AW_build rfl tb_num rfl ?_
    | refine AW_call rfl rfl (by first | exact ct_Right _) ?_
    | refine AW_ints rfl tu_nums ti_num ti_size ti_zero rfl rfl rfl (by first | exact .cons _ _ _ _ _ rfl (.cons _ _ _ _ _ rfl (.nil _)) | exact .cons _ _ _ _ _ rfl (.cons _ _ _ _ _ rfl (.cons _ _ _ _ _ rfl (.cons _ _ _ _ _ rfl (.nil _)))) | exact .cons _ _ _ _ _ rfl (.cons _ _ _ _ _ rfl (.cons _ _ _ _ _ rfl (.nil _))) | exact .cons _ _ _ _ _ rfl (.cons _ _ _ _ _ rfl (.cons _ _ _ _ _ rfl (.cons _ _ _ _ _ rfl (.cons _ _ _ _ _ rfl (.nil _)))))) ?_
  
    | refine AW_pickT rfl rfl rfl ?_
    | refine AW_pickF rfl rfl rfl ?_
    | refine AW_skip rfl rfl rfl rfl ?_
    | refine AW_pickTg rfl rfl rfl rfl rfl rfl ?_
    | refine AW_pickFg rfl rfl rfl rfl rfl rfl ?_
    | refine AW_moveg rfl rfl rfl rfl rfl ?_
    | refine AW_notg rfl rfl rfl rfl rfl ?_
    | refine AW_eqg rfl rfl rfl rfl rfl rfl ?_
    | refine AW_eq rfl rfl rfl ?_
    | refine AW_loadg rfl rfl rfl rfl ty_num rfl rfl rfl rfl ?_
    | refine AW_callg rfl rfl rfl rfl rfl (by first | exact ct_Right _) ?_
    | refine AW_nil (fun (h : false = true) => by cases h) ?_
    | refine AW_nil (fun (_ : true = true) => by kernel_rfl) ?_
    | refine Wp_block ?_
    | refine Wp_skip ?_
    | refine Wp_exit ?_
    | refine Wp_ret ?_
  refine Wp_cond rfl (fun hc => ?_) (fun hc => ?_)
  · have hlt : k < xs.length := by simpa using hc
    obtain ⟨x, hx⟩ : ∃ x, xs[k]? = some x := ⟨_, List.getElem?_eq_getElem hlt⟩
    have hx' : xs.getD k (false, []) = x := by simp [List.getD_eq_getElem?_getD, hx]
    repeat first
      | refine Wp_seq ?_
      | refine Wp_region tm_mixed ?_
      | refine AW_move rfl rfl ?_
      | refine AW_assign rfl rfl ?_
      | refine AW_load rfl ty_num rfl rfl rfl rfl ?_
      | refine AW_store ty_num rfl rfl rfl rfl rfl rfl rfl ?_
      | refine AW_extract rfl rfl rfl ?_
      | refine AW_alloc rfl tz_num ?_
      | refine AW_box rfl rfl (row := true) rfl (fun h => by cases h) rfl ?_
      | refine AW_not rfl rfl ?_
      | refine AW_build rfl tb_num rfl ?_
      | refine AW_call rfl rfl (by first | exact ct_Right _) ?_
      | refine AW_ints rfl tu_nums ti_num ti_size ti_zero rfl rfl rfl (by first | exact .cons _ _ _ _ _ rfl (.cons _ _ _ _ _ rfl (.nil _)) | exact .cons _ _ _ _ _ rfl (.cons _ _ _ _ _ rfl (.cons _ _ _ _ _ rfl (.cons _ _ _ _ _ rfl (.nil _)))) | exact .cons _ _ _ _ _ rfl (.cons _ _ _ _ _ rfl (.cons _ _ _ _ _ rfl (.nil _))) | exact .cons _ _ _ _ _ rfl (.cons _ _ _ _ _ rfl (.cons _ _ _ _ _ rfl (.cons _ _ _ _ _ rfl (.cons _ _ _ _ _ rfl (.nil _)))))) ?_
  
      | refine AW_pickT rfl rfl rfl ?_
      | refine AW_pickF rfl rfl rfl ?_
      | refine AW_skip rfl rfl rfl rfl ?_
      | refine AW_pickTg rfl rfl rfl rfl rfl rfl ?_
      | refine AW_pickFg rfl rfl rfl rfl rfl rfl ?_
      | refine AW_moveg rfl rfl rfl rfl rfl ?_
      | refine AW_notg rfl rfl rfl rfl rfl ?_
      | refine AW_eqg rfl rfl rfl rfl rfl rfl ?_
      | refine AW_eq rfl rfl rfl ?_
      | refine AW_loadg rfl rfl rfl rfl ty_num rfl rfl rfl rfl ?_
      | refine AW_callg rfl rfl rfl rfl rfl (by first | exact ct_Right _) ?_
      | refine AW_nil (fun (h : false = true) => by cases h) ?_
      | refine AW_nil (fun (_ : true = true) => by kernel_rfl) ?_
      | refine Wp_block ?_
      | refine Wp_skip ?_
      | refine Wp_exit ?_
      | refine Wp_ret ?_
    refine AW_quiet rfl (q_polyAt rfl rfl hx tu_nums ts_num) ?_
    refine AW_quiet rfl (q_loadP rfl ty_num) ?_
    repeat first
      | refine Wp_seq ?_
      | refine Wp_region tm_mixed ?_
      | refine AW_move rfl rfl ?_
      | refine AW_assign rfl rfl ?_
      | refine AW_load rfl ty_num rfl rfl rfl rfl ?_
      | refine AW_store ty_num rfl rfl rfl rfl rfl rfl rfl ?_
      | refine AW_extract rfl rfl rfl ?_
      | refine AW_alloc rfl tz_num ?_
      | refine AW_box rfl rfl (row := true) rfl (fun h => by cases h) rfl ?_
      | refine AW_not rfl rfl ?_
      | refine AW_build rfl tb_num rfl ?_
      | refine AW_call rfl rfl (by first | exact ct_Right _) ?_
      | refine AW_ints rfl tu_nums ti_num ti_size ti_zero rfl rfl rfl (by first | exact .cons _ _ _ _ _ rfl (.cons _ _ _ _ _ rfl (.nil _)) | exact .cons _ _ _ _ _ rfl (.cons _ _ _ _ _ rfl (.cons _ _ _ _ _ rfl (.cons _ _ _ _ _ rfl (.nil _)))) | exact .cons _ _ _ _ _ rfl (.cons _ _ _ _ _ rfl (.cons _ _ _ _ _ rfl (.nil _))) | exact .cons _ _ _ _ _ rfl (.cons _ _ _ _ _ rfl (.cons _ _ _ _ _ rfl (.cons _ _ _ _ _ rfl (.cons _ _ _ _ _ rfl (.nil _)))))) ?_
  
      | refine AW_pickT rfl rfl rfl ?_
      | refine AW_pickF rfl rfl rfl ?_
      | refine AW_skip rfl rfl rfl rfl ?_
      | refine AW_pickTg rfl rfl rfl rfl rfl rfl ?_
      | refine AW_pickFg rfl rfl rfl rfl rfl rfl ?_
      | refine AW_moveg rfl rfl rfl rfl rfl ?_
      | refine AW_notg rfl rfl rfl rfl rfl ?_
      | refine AW_eqg rfl rfl rfl rfl rfl rfl ?_
      | refine AW_eq rfl rfl rfl ?_
      | refine AW_loadg rfl rfl rfl rfl ty_num rfl rfl rfl rfl ?_
      | refine AW_callg rfl rfl rfl rfl rfl (by first | exact ct_Right _) ?_
      | refine AW_nil (fun (h : false = true) => by cases h) ?_
      | refine AW_nil (fun (_ : true = true) => by kernel_rfl) ?_
      | refine Wp_block ?_
      | refine Wp_skip ?_
      | refine Wp_exit ?_
      | refine Wp_ret ?_
    refine Wp_cond rfl (fun hc => ?_) (fun hc => ?_)
    · repeat first
        | refine Wp_seq ?_
        | refine Wp_region tm_mixed ?_
        | refine AW_move rfl rfl ?_
        | refine AW_assign rfl rfl ?_
        | refine AW_load rfl ty_num rfl rfl rfl rfl ?_
        | refine AW_store ty_num rfl rfl rfl rfl rfl rfl rfl ?_
        | refine AW_extract rfl rfl rfl ?_
        | refine AW_alloc rfl tz_num ?_
        | refine AW_box rfl rfl (row := true) rfl (fun h => by cases h) rfl ?_
        | refine AW_not rfl rfl ?_
        | refine AW_build rfl tb_num rfl ?_
        | refine AW_call rfl rfl (by first | exact ct_Right _) ?_
        | refine AW_ints rfl tu_nums ti_num ti_size ti_zero rfl rfl rfl (by first | exact .cons _ _ _ _ _ rfl (.cons _ _ _ _ _ rfl (.nil _)) | exact .cons _ _ _ _ _ rfl (.cons _ _ _ _ _ rfl (.cons _ _ _ _ _ rfl (.cons _ _ _ _ _ rfl (.nil _)))) | exact .cons _ _ _ _ _ rfl (.cons _ _ _ _ _ rfl (.cons _ _ _ _ _ rfl (.nil _))) | exact .cons _ _ _ _ _ rfl (.cons _ _ _ _ _ rfl (.cons _ _ _ _ _ rfl (.cons _ _ _ _ _ rfl (.cons _ _ _ _ _ rfl (.nil _)))))) ?_
  
        | refine AW_pickT rfl rfl rfl ?_
        | refine AW_pickF rfl rfl rfl ?_
        | refine AW_skip rfl rfl rfl rfl ?_
        | refine AW_pickTg rfl rfl rfl rfl rfl rfl ?_
        | refine AW_pickFg rfl rfl rfl rfl rfl rfl ?_
        | refine AW_moveg rfl rfl rfl rfl rfl ?_
        | refine AW_notg rfl rfl rfl rfl rfl ?_
        | refine AW_eqg rfl rfl rfl rfl rfl rfl ?_
        | refine AW_eq rfl rfl rfl ?_
        | refine AW_loadg rfl rfl rfl rfl ty_num rfl rfl rfl rfl ?_
        | refine AW_callg rfl rfl rfl rfl rfl (by first | exact ct_Right _) ?_
        | refine AW_nil (fun (h : false = true) => by cases h) ?_
        | refine AW_nil (fun (_ : true = true) => by kernel_rfl) ?_
        | refine Wp_block ?_
        | refine Wp_skip ?_
        | refine Wp_exit ?_
        | refine Wp_ret ?_
      refine ⟨.inr rfl, _, .tmp _ _ _ _ rfl .nil, ?_⟩
      rw [not_all_of hlt (by rw [hx']; simpa using hc)]
      rfl
    · repeat first
        | refine Wp_seq ?_
        | refine Wp_region tm_mixed ?_
        | refine AW_move rfl rfl ?_
        | refine AW_assign rfl rfl ?_
        | refine AW_load rfl ty_num rfl rfl rfl rfl ?_
        | refine AW_store ty_num rfl rfl rfl rfl rfl rfl rfl ?_
        | refine AW_extract rfl rfl rfl ?_
        | refine AW_alloc rfl tz_num ?_
        | refine AW_box rfl rfl (row := true) rfl (fun h => by cases h) rfl ?_
        | refine AW_not rfl rfl ?_
        | refine AW_build rfl tb_num rfl ?_
        | refine AW_call rfl rfl (by first | exact ct_Right _) ?_
        | refine AW_ints rfl tu_nums ti_num ti_size ti_zero rfl rfl rfl (by first | exact .cons _ _ _ _ _ rfl (.cons _ _ _ _ _ rfl (.nil _)) | exact .cons _ _ _ _ _ rfl (.cons _ _ _ _ _ rfl (.cons _ _ _ _ _ rfl (.cons _ _ _ _ _ rfl (.nil _)))) | exact .cons _ _ _ _ _ rfl (.cons _ _ _ _ _ rfl (.cons _ _ _ _ _ rfl (.nil _))) | exact .cons _ _ _ _ _ rfl (.cons _ _ _ _ _ rfl (.cons _ _ _ _ _ rfl (.cons _ _ _ _ _ rfl (.cons _ _ _ _ _ rfl (.nil _)))))) ?_
  
        | refine AW_pickT rfl rfl rfl ?_
        | refine AW_pickF rfl rfl rfl ?_
        | refine AW_skip rfl rfl rfl rfl ?_
        | refine AW_pickTg rfl rfl rfl rfl rfl rfl ?_
        | refine AW_pickFg rfl rfl rfl rfl rfl rfl ?_
        | refine AW_moveg rfl rfl rfl rfl rfl ?_
        | refine AW_notg rfl rfl rfl rfl rfl ?_
        | refine AW_eqg rfl rfl rfl rfl rfl rfl ?_
        | refine AW_eq rfl rfl rfl ?_
        | refine AW_loadg rfl rfl rfl rfl ty_num rfl rfl rfl rfl ?_
        | refine AW_callg rfl rfl rfl rfl rfl (by first | exact ct_Right _) ?_
        | refine AW_nil (fun (h : false = true) => by cases h) ?_
        | refine AW_nil (fun (_ : true = true) => by kernel_rfl) ?_
        | refine Wp_block ?_
        | refine Wp_skip ?_
        | refine Wp_exit ?_
        | refine Wp_ret ?_
      refine AW_quiet rfl (q_add rfl rfl) ?_
      repeat first
        | refine Wp_seq ?_
        | refine Wp_region tm_mixed ?_
        | refine AW_move rfl rfl ?_
        | refine AW_assign rfl rfl ?_
        | refine AW_load rfl ty_num rfl rfl rfl rfl ?_
        | refine AW_store ty_num rfl rfl rfl rfl rfl rfl rfl ?_
        | refine AW_extract rfl rfl rfl ?_
        | refine AW_alloc rfl tz_num ?_
        | refine AW_box rfl rfl (row := true) rfl (fun h => by cases h) rfl ?_
        | refine AW_not rfl rfl ?_
        | refine AW_build rfl tb_num rfl ?_
        | refine AW_call rfl rfl (by first | exact ct_Right _) ?_
        | refine AW_ints rfl tu_nums ti_num ti_size ti_zero rfl rfl rfl (by first | exact .cons _ _ _ _ _ rfl (.cons _ _ _ _ _ rfl (.nil _)) | exact .cons _ _ _ _ _ rfl (.cons _ _ _ _ _ rfl (.cons _ _ _ _ _ rfl (.cons _ _ _ _ _ rfl (.nil _)))) | exact .cons _ _ _ _ _ rfl (.cons _ _ _ _ _ rfl (.cons _ _ _ _ _ rfl (.nil _))) | exact .cons _ _ _ _ _ rfl (.cons _ _ _ _ _ rfl (.cons _ _ _ _ _ rfl (.cons _ _ _ _ _ rfl (.cons _ _ _ _ _ rfl (.nil _)))))) ?_
  
        | refine AW_pickT rfl rfl rfl ?_
        | refine AW_pickF rfl rfl rfl ?_
        | refine AW_skip rfl rfl rfl rfl ?_
        | refine AW_pickTg rfl rfl rfl rfl rfl rfl ?_
        | refine AW_pickFg rfl rfl rfl rfl rfl rfl ?_
        | refine AW_moveg rfl rfl rfl rfl rfl ?_
        | refine AW_notg rfl rfl rfl rfl rfl ?_
        | refine AW_eqg rfl rfl rfl rfl rfl rfl ?_
        | refine AW_eq rfl rfl rfl ?_
        | refine AW_loadg rfl rfl rfl rfl ty_num rfl rfl rfl rfl ?_
        | refine AW_callg rfl rfl rfl rfl rfl (by first | exact ct_Right _) ?_
        | refine AW_nil (fun (h : false = true) => by cases h) ?_
        | refine AW_nil (fun (_ : true = true) => by kernel_rfl) ?_
        | refine Wp_block ?_
        | refine Wp_skip ?_
        | refine Wp_exit ?_
        | refine Wp_ret ?_
      refine ⟨k + 1, ⟨hlt, ?_⟩, le_of ⟨rfl, rfl, ?_, trivial⟩ trivial rfl, by omega⟩
      · rw [all_take_succ hlt, hall, hx']; simpa using hc
      · rw [← wrap_succ (by omega)]; rfl
  · have hge : k = xs.length := by have : ¬ k < xs.length := by simpa using hc
                                   omega
    repeat first
      | refine Wp_seq ?_
      | refine Wp_region tm_mixed ?_
      | refine AW_move rfl rfl ?_
      | refine AW_assign rfl rfl ?_
      | refine AW_load rfl ty_num rfl rfl rfl rfl ?_
      | refine AW_store ty_num rfl rfl rfl rfl rfl rfl rfl ?_
      | refine AW_extract rfl rfl rfl ?_
      | refine AW_alloc rfl tz_num ?_
      | refine AW_box rfl rfl (row := true) rfl (fun h => by cases h) rfl ?_
      | refine AW_not rfl rfl ?_
      | refine AW_build rfl tb_num rfl ?_
      | refine AW_call rfl rfl (by first | exact ct_Right _) ?_
      | refine AW_ints rfl tu_nums ti_num ti_size ti_zero rfl rfl rfl (by first | exact .cons _ _ _ _ _ rfl (.cons _ _ _ _ _ rfl (.nil _)) | exact .cons _ _ _ _ _ rfl (.cons _ _ _ _ _ rfl (.cons _ _ _ _ _ rfl (.cons _ _ _ _ _ rfl (.nil _)))) | exact .cons _ _ _ _ _ rfl (.cons _ _ _ _ _ rfl (.cons _ _ _ _ _ rfl (.nil _))) | exact .cons _ _ _ _ _ rfl (.cons _ _ _ _ _ rfl (.cons _ _ _ _ _ rfl (.cons _ _ _ _ _ rfl (.cons _ _ _ _ _ rfl (.nil _)))))) ?_
  
      | refine AW_pickT rfl rfl rfl ?_
      | refine AW_pickF rfl rfl rfl ?_
      | refine AW_skip rfl rfl rfl rfl ?_
      | refine AW_pickTg rfl rfl rfl rfl rfl rfl ?_
      | refine AW_pickFg rfl rfl rfl rfl rfl rfl ?_
      | refine AW_moveg rfl rfl rfl rfl rfl ?_
      | refine AW_notg rfl rfl rfl rfl rfl ?_
      | refine AW_eqg rfl rfl rfl rfl rfl rfl ?_
      | refine AW_eq rfl rfl rfl ?_
      | refine AW_loadg rfl rfl rfl rfl ty_num rfl rfl rfl rfl ?_
      | refine AW_callg rfl rfl rfl rfl rfl (by first | exact ct_Right _) ?_
      | refine AW_nil (fun (h : false = true) => by cases h) ?_
      | refine AW_nil (fun (_ : true = true) => by kernel_rfl) ?_
      | refine Wp_block ?_
      | refine Wp_skip ?_
      | refine Wp_exit ?_
      | refine Wp_ret ?_
    refine ⟨.inr rfl, _, .tmp _ _ _ _ rfl .nil, ?_⟩
    rw [hge, List.take_of_length_le (Nat.le_refl _)] at hall
    rw [hall]
    rfl
end Go.Proofs.YtonbhpadoplpkaaGreat
/- The package rosettekit: what is lent (limbs with marks behind them), and whether it was kept. -/
namespace Go.Proofs.YtonbhpadoplpkaaGreat
open Go.RowKit Go.Deep
/-- The marks behind what is lent. -/
def markN (i : Nat) : Nat := 8000024 + i
def marks (n : Nat) : List Nat := (List.range n).map markN
/-- A record whose limbs are lent. -/
def LentV (w : World) (v : Value) (x : Raw) : Prop := ∃ A l c, v = .agg #[.bool x.1, .slice A l c] ∧ l = x.2.length ∧ l + 12 ≤ c ∧ Lim w w.heap.size A (x.2 ++ marks 12)
theorem LentV.stay {w w' : World} {v : Value} {x : Raw} (h : LentV w v x) (hb : Below w.heap.size w w') : LentV w' v x := by
  obtain ⟨A, l, c, rfl, hl, hc, hlim⟩ := h
  exact ⟨A, l, c, rfl, hl, hc, hlim.stay hb⟩
theorem LentV.put {w w' : World} {g : Nat} {v : Value} {x : Raw} (h : LentV w v x) (p : Put g w w') : LentV w' v x := by
  obtain ⟨A, l, c, rfl, hl, hc, hlim⟩ := h
  exact ⟨A, l, c, rfl, hl, hc, hlim.put p⟩
theorem LentV.raw {w : World} {v : Value} {x : Raw} (h : LentV w v x) : RawV w v x := by
  obtain ⟨A, l, c, rfl, hl, hc, hlim⟩ := h
  refine ⟨A, l, c, rfl, hl, by omega, ?_⟩
  have := hlim.take x.2.length
  rwa [List.take_left] at this
theorem LentV.open {w : World} {v : Value} {x : Raw} (h : LentV w v x) : ∃ b A l c, v = .agg #[.bool b, .slice A l c] ∧ Hid (LentV w (.agg #[.bool b, .slice A l c]) x) := by
  obtain ⟨A, l, c, rfl, hl, hc, hlim⟩ := h
  exact ⟨x.1, A, l, c, rfl, Lib.hid ⟨A, l, c, rfl, hl, hc, hlim⟩⟩
theorem LentV.parts {w : World} {b : Bool} {A : Option Addr} {l c : Nat} {x : Raw} (h : LentV w (.agg #[.bool b, .slice A l c]) x) : b = x.1 ∧ l = x.2.length ∧ l + 12 ≤ c ∧ Lim w w.heap.size A (x.2 ++ marks 12) := by
  obtain ⟨A', l', c', hv, hl, hc, hlim⟩ := h
  injection hv with hv
  have h0 := congrArg (fun a => a[0]?) hv
  have h1 := congrArg (fun a => a[1]?) hv
  simp at h0 h1
  obtain ⟨rfl, rfl, rfl⟩ := h1
  exact ⟨h0, hl, hc, hlim⟩
theorem Box2.write1 {w : World} {g : Nat} {b : Bool} {A : Option Addr} {l c : Nat} (h : Box2 w g (.bool b) (.slice A l c)) (y : Value) :
    ∃ W, w.setCell ⟨g, 1, none⟩ y = W ∧ Hid (Box2 W g (.bool b) y) ∧ Put g w W := by
  refine ⟨_, rfl, Lib.hid ?_, ⟨?_, fun _ _ _ hf => Fresh.set hf g 1 y⟩⟩
  · unfold Box2 at h ⊢
    simp [World.setCell, Array.getElem?_modify, h]
  · refine ⟨rfl, rfl, rfl, by simp, fun i hi hn => ?_, fun i hi _ => by subst hi; exact h.nums⟩
    rw [Below.heap_setCell _ _ _ i (by simpa using hn)]
end Go.Proofs.YtonbhpadoplpkaaGreat
/- The package rosetteref00: less. -/
namespace Go.Proofs.YtonbhpadoplpkaaGreat
open Go.RowKit Go.Deep
/-- What is left of a window of digits. -/
structure Taken (us us' : List Nat) (p m P : Nat) : Prop where
  len : us'.length = us.length
  tiny : Tiny us'
  low : us'.take p = us.take p
  high : us'.drop (p + m) = us.drop (p + m)
  is : val32 ((us'.drop p).take m) + P = val32 ((us.drop p).take m)
end Go.Proofs.YtonbhpadoplpkaaGreat
/- The package rosetteref00: long. -/
namespace Go.Proofs.YtonbhpadoplpkaaGreat
open Go.RowKit Go.Deep
theorem Row.grown {a b : World} {g r : Nat} {os : List Nat} (h : Row a r os) (k : a.grownBy b (some g)) (hr : r ≠ g) : Row b r os :=
  h.of_block (k.block r h.lt (fun e => hr (Option.some.inj e)))
end Go.Proofs.YtonbhpadoplpkaaGreat
/- The package rosettekit: whole numbers. -/
namespace Go.Proofs.YtonbhpadoplpkaaGreat
open Go.RowKit Go.Deep
set_option maxRecDepth 100000 in
theorem kit_made (neg : Bool) (v : Value) (n : Nat) (w : World) (h : NatAt w v n) (hl : lc n ≤ 1099511627776) :
    Calls Tryz.prog 56 #[.bool neg, v] w fun e w' => ∃ u, e = .returned u ∧ IntV w' u (signed neg n) ∧ Below w.heap.size w w' := by
  have HH := Lib.hid h
  have HL := Lib.hid hl
  obtain ⟨A0, l0, c0, rfl, -, -, -, -⟩ := h.open
  clear h hl
  go_enter Tryz.func56, Tryz.ntmps56
  go_wp2_with fail
  obtain ⟨W0, g, hW, hg, bx, G_g, S_W0, hb⟩ := boxH w (.bool false) (.slice none 0 0)
  rw [hW, hg]
  replace HH := Lib.hid (HH.out.stay hb)
  have B_W0 := Lib.hid (show Since w W0 from hb)
  clear hW hg hb
  refine (nat_trim HH.out HL.out).mono ?_
  rintro e w1 ⟨r, rfl, hr, -, hb⟩
  obtain ⟨A, l, c, rfl, HE, HC, HLM, HN⟩ := hr.open
  replace bx := Lib.hid (bx.out.stay hb)
  replace B_W0 := Lib.hid (B_W0.out.stay hb)
  clear hr hb
  have a0 := bx.out.cell0
  have a1 := bx.out.cell1
  have fr := bx.out.free
  have HGG := Lib.hid (show w.heap.size ≤ g by have := G_g.out; omega)
  by_cases h0 : l = 0
  · subst h0
    have hz : n = 0 := limbs_eq_nil.1 (List.eq_nil_of_length_eq_zero HE.out.symm)
    have HZ := Lib.hid (show signed neg n = 0 by rw [hz]; cases neg <;> simp [signed])
    clear hz
    cases neg
    all_goals
      go_wp2_with fail
      refine bodyPost_ret (results_cell_row rfl _ _ g 24 #[.bool false, (.slice A 0 c)] (0, 0) _ (by rfl) bx.out.store Tryz.underlying24 rfl (by kernel_rfl)) rfl ?_
      obtain ⟨W2, hW2, bx', p⟩ := bx.out.write (.bool false) (.slice A 0 c)
      rw [hW2, HZ.out]
      exact ⟨_, rfl, ⟨A, 0, c, rfl, by rw [show (0 : Int).natAbs = 0 from rfl, limbs_zero]; rfl, HC.out, by rw [show (0 : Int).natAbs = 0 from rfl, limbs_zero]; exact Lim.nil _ _ _⟩, B_W0.out.put p HGG.out⟩
  · have hlI : (0 : Int) < (l : Int) := by omega
    have hlN : decide (0 < l) = true := decide_eq_true (by omega)
    have HNZ := Lib.hid (show n ≠ 0 by rintro rfl; rw [limbs_zero] at HE; exact h0 HE.out)
    clear h0
    cases neg
    case false =>
      go_wp2_with fail
      refine bodyPost_ret (results_cell_row rfl _ _ g 24 #[.bool false, (.slice A l c)] (0, 0) _ (by rfl) bx.out.store Tryz.underlying24 rfl (by kernel_rfl)) rfl ?_
      obtain ⟨W2, hW2, bx', p⟩ := bx.out.write (.bool false) (.slice A l c)
      rw [hW2]
      exact ⟨_, rfl, ⟨A, l, c, by simp [signed], by rw [signed_natAbs]; exact HE.out, HC.out, by rw [signed_natAbs]; exact HLM.out.put p⟩, B_W0.out.put p HGG.out⟩
    case true =>
      go_wp2_with fail
      refine bodyPost_ret (results_cell_row rfl _ _ g 24 #[.bool true, (.slice A l c)] (0, 0) _ (by rfl) bx.out.store Tryz.underlying24 rfl (by kernel_rfl)) rfl ?_
      obtain ⟨W2, hW2, bx', p⟩ := bx.out.write (.bool true) (.slice A l c)
      rw [hW2]
      exact ⟨_, rfl, ⟨A, l, c, by rw [signed_neg]; simp [HNZ.out], by rw [signed_natAbs]; exact HE.out, HC.out, by rw [signed_natAbs]; exact HLM.out.put p⟩, B_W0.out.put p HGG.out⟩
set_option maxRecDepth 100000 in
theorem kit_of (n : Int) (w : World) (h1 : -9223372036854775808 ≤ n) (h2 : n < 9223372036854775808) :
    Calls Tryz.prog 70 #[.int .i64 n] w fun e w' => ∃ v', e = .returned v' ∧ IntV w' v' n ∧ Below w.heap.size w w' := by
  by_cases hn : n < 0
  · obtain ⟨k, hk⟩ : ∃ k : Nat, n = -(k : Int) := ⟨n.natAbs, by omega⟩
    have HK := Lib.hid hk
    obtain ⟨r, e1, e2⟩ := wrap_minus (k := k) (by omega) (by omega)
    rw [← hk] at e1
    have HW := Lib.hid (show k < W64 by rw [W64_eq]; omega)
    have HSG := Lib.hid (show signed true k = n ∧ decide (n < 0) = true from ⟨by rw [hk]; rfl, decide_eq_true hn⟩)
    clear hk h1 h2
    go_enter Tryz.func70, Tryz.ntmps70
    go_wp2_with fail
    obtain ⟨W0, g, hW, hg, bx, G_g, S_W0, hb⟩ := boxH w (.bool false) (.slice none 0 0)
    rw [hW, hg]

    have B_W0 := Lib.hid (show Since w W0 from hb)
    clear hW hg hb
    refine (ref_of k W0 HW.out).mono ?_
    rintro e w1 ⟨v, rfl, ho, hb⟩
    obtain ⟨A, l, c, rfl, HE, HC, HLM, HN⟩ := (NatAt.of_own ho).open
    replace bx := Lib.hid (bx.out.stay hb)
    replace B_W0 := Lib.hid (B_W0.out.stay hb)
    clear ho hb
    have fr := bx.out.free
    have a0 := bx.out.cell0
    have a1 := bx.out.cell1
    have HGG := Lib.hid (show w.heap.size ≤ g by have := G_g.out; omega)
    go_wp2_with fail
    refine bodyPost_ret (results_cell_row rfl _ _ g 24 #[.bool true, (.slice A l c)] (0, 0) _ (by rfl) bx.out.store Tryz.underlying24 rfl (by kernel_rfl)) rfl ?_
    obtain ⟨W2, hW2, bx', p⟩ := bx.out.write (.bool true) (.slice A l c)
    rw [hW2]
    exact ⟨_, rfl, ⟨A, l, c, by rw [HSG.out.2], by rw [← HSG.out.1, signed_natAbs]; exact HE.out, HC.out, by rw [← HSG.out.1, signed_natAbs]; exact HLM.out.put p⟩, B_W0.out.put p HGG.out⟩
  · obtain ⟨k, hk⟩ : ∃ k : Nat, n = (k : Int) := ⟨n.natAbs, by omega⟩
    have e1 := wrap_plus (k := k) (by omega)
    subst hk
    have HW := Lib.hid (show k < W64 by rw [W64_eq]; omega)
    have HSG := Lib.hid (show signed false k = (k : Int) ∧ decide ((k : Int) < 0) = false from ⟨rfl, decide_eq_false hn⟩)
    clear h1 h2
    go_enter Tryz.func70, Tryz.ntmps70
    go_wp2_with fail
    obtain ⟨W0, g, hW, hg, bx, G_g, S_W0, hb⟩ := boxH w (.bool false) (.slice none 0 0)
    rw [hW, hg]

    have B_W0 := Lib.hid (show Since w W0 from hb)
    clear hW hg hb
    refine (ref_of k W0 HW.out).mono ?_
    rintro e w1 ⟨v, rfl, ho, hb⟩
    obtain ⟨A, l, c, rfl, HE, HC, HLM, HN⟩ := (NatAt.of_own ho).open
    replace bx := Lib.hid (bx.out.stay hb)
    replace B_W0 := Lib.hid (B_W0.out.stay hb)
    clear ho hb
    have fr := bx.out.free
    have a0 := bx.out.cell0
    have a1 := bx.out.cell1
    have HGG := Lib.hid (show w.heap.size ≤ g by have := G_g.out; omega)
    go_wp2_with fail
    refine bodyPost_ret (results_cell_row rfl _ _ g 24 #[.bool false, (.slice A l c)] (0, 0) _ (by rfl) bx.out.store Tryz.underlying24 rfl (by kernel_rfl)) rfl ?_
    obtain ⟨W2, hW2, bx', p⟩ := bx.out.write (.bool false) (.slice A l c)
    rw [hW2]
    exact ⟨_, rfl, ⟨A, l, c, by rw [HSG.out.2], by rw [← HSG.out.1, signed_natAbs]; exact HE.out, HC.out, by rw [← HSG.out.1, signed_natAbs]; exact HLM.out.put p⟩, B_W0.out.put p HGG.out⟩
end Go.Proofs.YtonbhpadoplpkaaGreat
/- The package rosettekit: copies; the region 'q, r, e := f(CopyInt(a), CopyInt(b))'. -/
namespace Go.Proofs.YtonbhpadoplpkaaGreat
open Go.RowKit Go.Deep
/-- A variable's box, that holds a record once it is stored. -/
def BoxQ (st : Prop) (w : World) (base : Nat) (v : Value) (q : Raw) : Prop := ∃ (g : Nat) (b : Bool) (A : Option Addr) (l c : Nat), v = .pointer (some ⟨g, 0, none⟩) ∧ base ≤ g ∧ Box2 w g (.bool b) (.slice A l c) ∧ (st → RawV w (.agg #[.bool b, .slice A l c]) q)
theorem BoxQ.stay {st st' : Prop} {w w' : World} {base : Nat} {v : Value} {q : Raw} (h : BoxQ st w base v q) (hs : st' → st) (hb : Below w.heap.size w w') : BoxQ st' w' base v q := by
  obtain ⟨g, b, A, l, c, h1, h0, h2, h3⟩ := h
  exact ⟨g, b, A, l, c, h1, h0, h2.stay hb, fun e => (h3 (hs e)).stay hb⟩
theorem BoxQ.same {st st' : Prop} {w : World} {base : Nat} {v : Value} {q : Raw} (h : BoxQ st w base v q) (hs : st' → st) : BoxQ st' w base v q := by
  obtain ⟨g, b, A, l, c, h1, h0, h2, h3⟩ := h
  exact ⟨g, b, A, l, c, h1, h0, h2, fun e => h3 (hs e)⟩
theorem BoxQ.put {st st' : Prop} {w w' : World} {base k : Nat} {v : Value} {q : Raw} (h : BoxQ st w base v q) (hs : st' → st) (p : Put k w w') (hne : v ≠ .pointer (some ⟨k, 0, none⟩)) : BoxQ st' w' base v q := by
  obtain ⟨g, b, A, l, c, h1, h0, h2, h3⟩ := h
  exact ⟨g, b, A, l, c, h1, h0, h2.put p (fun e => hne (by rw [h1, e])), fun e => (h3 (hs e)).put p⟩
theorem BoxQ.new {st : Prop} {w : World} {base : Nat} {q : Raw} (hs : ¬ st) (hb : base ≤ w.heap.size) : BoxQ st (w.alloc (.cells #[.bool false, .slice none 0 0] 24)) base (.pointer (some ⟨w.heap.size, 0, none⟩)) q :=
  ⟨w.heap.size, false, none, 0, 0, rfl, hb, heap_alloc_new w _, fun e => absurd e hs⟩
theorem BoxQ.lt {st : Prop} {w : World} {base k : Nat} {q : Raw} (h : BoxQ st w base (.pointer (some ⟨k, 0, none⟩)) q) : k < w.heap.size := by
  obtain ⟨g, b, A, l, c, h1, h0, h2, h3⟩ := h
  injection h1 with h1
  injection h1 with h1
  injection h1 with h1
  subst h1
  exact h2.lt
theorem BoxQ.fresh {st : Prop} {w : World} {base : Nat} {v : Value} {q : Raw} (h : BoxQ st w base v q) : v ≠ .pointer (some ⟨w.heap.size, 0, none⟩) := by
  rintro rfl
  exact absurd h.lt (Nat.lt_irrefl _)
/-- What a call told: two records and an errno; a record, a bool and an errno; a record and an errno. -/
def Tup2 (w : World) (v : Value) (q r : Raw) (E : Int) : Prop := ∃ a b, v = .tuple #[a, b, .int .i64 E] ∧ RawV w a q ∧ RawV w b r
def Tup1b (w : World) (v : Value) (q : Raw) (ok : Bool) (E : Int) : Prop := ∃ a, v = .tuple #[a, .bool ok, .int .i64 E] ∧ RawV w a q
def Tup1 (w : World) (v : Value) (q : Raw) (E : Int) : Prop := ∃ a, v = .tuple #[a, .int .i64 E] ∧ RawV w a q
theorem Tup2.stay {w w' : World} {v : Value} {q r : Raw} {E : Int} (h : Tup2 w v q r E) (hb : Below w.heap.size w w') : Tup2 w' v q r E := by
  obtain ⟨a, b, h1, h2, h3⟩ := h; exact ⟨a, b, h1, h2.stay hb, h3.stay hb⟩
theorem Tup2.put {w w' : World} {g : Nat} {v : Value} {q r : Raw} {E : Int} (h : Tup2 w v q r E) (p : Put g w w') : Tup2 w' v q r E := by
  obtain ⟨a, b, h1, h2, h3⟩ := h; exact ⟨a, b, h1, h2.put p, h3.put p⟩
theorem Tup1b.stay {w w' : World} {v : Value} {q : Raw} {ok : Bool} {E : Int} (h : Tup1b w v q ok E) (hb : Below w.heap.size w w') : Tup1b w' v q ok E := by
  obtain ⟨a, h1, h2⟩ := h; exact ⟨a, h1, h2.stay hb⟩
theorem Tup1b.put {w w' : World} {g : Nat} {v : Value} {q : Raw} {ok : Bool} {E : Int} (h : Tup1b w v q ok E) (p : Put g w w') : Tup1b w' v q ok E := by
  obtain ⟨a, h1, h2⟩ := h; exact ⟨a, h1, h2.put p⟩
theorem Tup1.stay {w w' : World} {v : Value} {q : Raw} {E : Int} (h : Tup1 w v q E) (hb : Below w.heap.size w w') : Tup1 w' v q E := by
  obtain ⟨a, h1, h2⟩ := h; exact ⟨a, h1, h2.stay hb⟩
theorem Tup1.put {w w' : World} {g : Nat} {v : Value} {q : Raw} {E : Int} (h : Tup1 w v q E) (p : Put g w w') : Tup1 w' v q E := by
  obtain ⟨a, h1, h2⟩ := h; exact ⟨a, h1, h2.put p⟩
end Go.Proofs.YtonbhpadoplpkaaGreat
/- Contracts of the abstract machine: rosettekit. -/
namespace Go.Proofs.YtonbhpadoplpkaaGreat
open Go.RowKit Go.Deep
/-- A number's limbs. -/
abbrev aN (n : Nat) : AR := .val (.one (.st (magP (limbs n))))
abbrev vN (n : Nat) : AV := .one (.st (magP (limbs n)))
theorem ct_IntOf (n : Int) (h1 : -9223372036854775808 ≤ n) (h2 : n < 9223372036854775808) : Ct Tryz.prog 70 [.val (aI n)] (aZ n) where
  enters := fun vals w => enters_of Tryz.func70 rfl rfl vals w
  nop := rfl
  calls := by
    intro G β w vals _ ha
    rcases vals with _ | ⟨u, _ | ⟨v, vs⟩⟩
    · exact ha.elim
    · obtain ⟨hu, _⟩ := ha
      have hu : u = .int .i64 n := hu
      subst hu
      refine (kit_of n w h1 h2).mono ?_
      rintro e w' ⟨v, rfl, h1, h2⟩
      exact ⟨v, rfl, ok_of_rawV h1.raw, h2⟩
    · exact ha.2.elim
theorem raw_len {z : Int} {k : Nat} (h : lc z.natAbs ≤ k) : (rawOf z).2.length ≤ k := h
theorem ct_Same (x y : Raw) (hl : x.2.length ≤ 1099511627776) : Ct Tryz.prog 22 [aNum x, aNum y] (.val (aB (decide (x = y)))) :=
  ct2 Tryz.func22 rfl rfl rfl fun w u v h k => (kit_raw u v x y w h k hl).mono (by rintro e w' ⟨rfl, hb⟩; exact ⟨_, rfl, fun _ _ => rfl, hb⟩)
theorem ct_SameT (x : Raw) (hl : x.2.length ≤ 1099511627776) : Ct Tryz.prog 22 [aNum x, aNum x] (.val (aB true)) := by
  have := ct_Same x x hl
  rwa [decide_eq_true rfl] at this
/-- Lent limbs: behind them stand the marks. -/
def lentP (L : List Nat) : Pred where
  is := fun _ w v => ∃ A l c, v = .slice A l c ∧ l = L.length ∧ l + 12 ≤ c ∧ Lim w w.heap.size A (L ++ marks 12)
  cell := by
    rintro G w v ⟨A, l, c, rfl, _⟩
    exact ⟨noLimb_slice _ _ _, rfl⟩
  stay := by
    rintro G w w' v ⟨A, l, c, rfl, hl, hc, hlim⟩ m
    obtain ⟨H, _, e⟩ := m.ext
    exact ⟨A, l, c, rfl, hl, hc, (hlim.ext (Nat.le_refl _) e).more e.size⟩
  grow := by
    rintro G G' w v h _
    exact h
abbrev aLent (x : Raw) : AR := .val (.agg [.b x.1, .st (lentP x.2)])
end Go.Proofs.YtonbhpadoplpkaaGreat
/- Whole numbers of rosettekit, by the abstract machine. -/
namespace Go.Proofs.YtonbhpadoplpkaaGreat
open Go.RowKit Go.Deep
theorem ty_mag : TyI Tryz.prog 22 1 false := tyI_one Tryz.underlying22 rfl (by kernel_rfl)
end Go.Proofs.YtonbhpadoplpkaaGreat
/- Plain: the rows of the common divisor's run, and how often both stand in them. -/
namespace Go.Proofs.YtonbhpadoplpkaaGreat
/-- Two rows of the run of A and B. -/
structure GRow (A B : Nat) (whole : Bool) (r0 r1 : Nat) (x0 y0 x1 y1 : Int) : Prop where
  g : Nat.gcd r0 r1 = Nat.gcd A B
  m0 : r0 ≤ max A B
  m1 : r1 ≤ max A B
  bx0 : x0.natAbs ≤ max B 1
  by0 : y0.natAbs ≤ max A 1
  bx1 : x1.natAbs ≤ max B 1
  by1 : y1.natAbs ≤ max A 1
  made0 : whole = true → (A : Int) * x0 + B * y0 = r0
  made1 : whole = true → (A : Int) * x1 + B * y1 = r1
  sx : whole = true → x1.natAbs * r0 + x0.natAbs * r1 = B
  sy : whole = true → y1.natAbs * r0 + y0.natAbs * r1 = A
  turn : whole = true → (0 ≤ x0 ∧ x1 ≤ 0 ∧ y0 ≤ 0 ∧ 0 ≤ y1) ∨ (x0 ≤ 0 ∧ 0 ≤ x1 ∧ 0 ≤ y0 ∧ y1 ≤ 0)
theorem GRow.start (A B : Nat) (whole : Bool) : GRow A B whole A B 1 0 0 1 where
  g := rfl
  m0 := Nat.le_max_left _ _
  m1 := Nat.le_max_right _ _
  bx0 := Nat.le_max_right _ _
  by0 := Nat.zero_le _
  bx1 := Nat.zero_le _
  by1 := Nat.le_max_right _ _
  made0 := fun _ => by omega
  made1 := fun _ => by omega
  sx := fun _ => by simp
  sy := fun _ => by simp
  turn := fun _ => by omega
/-- A number less a multiple of one of the other sign: the sizes add. -/
theorem sizes_add {u v : Int} {q : Nat} (h : (0 ≤ u ∧ v ≤ 0) ∨ (u ≤ 0 ∧ 0 ≤ v)) : (u - (q : Int) * v).natAbs = u.natAbs + q * v.natAbs := by
  rcases h with ⟨h1, h2⟩ | ⟨h1, h2⟩
  · have h3 : 0 ≤ (q : Int) * (-v) := Int.mul_nonneg (by omega) (by omega)
    have h4 : (q : Int) * (-v) = ((q * v.natAbs : Nat) : Int) := by rw [Int.natCast_mul]; congr 1; omega
    rw [Int.mul_neg] at h3 h4
    omega
  · have h4 : (q : Int) * v = ((q * v.natAbs : Nat) : Int) := by rw [Int.natCast_mul]; congr 1; omega
    rw [h4]
    omega
theorem side_of {u v : Int} {q : Nat} (h : (0 ≤ u ∧ v ≤ 0)) : 0 ≤ u - (q : Int) * v := by
  have h3 : 0 ≤ (q : Int) * (-v) := Int.mul_nonneg (by omega) (by omega)
  rw [Int.mul_neg] at h3; omega
theorem side_of' {u v : Int} {q : Nat} (h : (u ≤ 0 ∧ 0 ≤ v)) : u - (q : Int) * v ≤ 0 := by
  have h3 : 0 ≤ (q : Int) * v := Int.mul_nonneg (by omega) (by omega)
  omega
theorem sum_step {a b r0 r1 q : Nat} {n : Nat} (hq : r0 = r1 * q + r0 % r1) (h : b * r0 + a * r1 = n) : (a + q * b) * r1 + b * (r0 % r1) = n := by
  obtain ⟨s, hs⟩ : ∃ s, r0 % r1 = s := ⟨_, rfl⟩
  rw [hs] at hq ⊢
  subst hq
  rw [Nat.add_mul, Nat.mul_add] at *
  rw [← h, Nat.mul_comm q b, Nat.mul_assoc, Nat.mul_comm q r1]
  omega
theorem made_step {A B x0 y0 x1 y1 : Int} {r0 r1 : Nat} (h0 : A * x0 + B * y0 = r0) (h1 : A * x1 + B * y1 = r1) : A * (x0 - ((r0 / r1 : Nat) : Int) * x1) + B * (y0 - ((r0 / r1 : Nat) : Int) * y1) = ((r0 % r1 : Nat) : Int) := by
  have hq : (r0 : Int) = r1 * ((r0 / r1 : Nat) : Int) + ((r0 % r1 : Nat) : Int) := by
    rw [← Int.natCast_mul, ← Int.natCast_add, Nat.div_add_mod]
  obtain ⟨q, hqq⟩ : ∃ q : Int, ((r0 / r1 : Nat) : Int) = q := ⟨_, rfl⟩
  rw [hqq] at hq ⊢
  have e : A * (x0 - q * x1) + B * (y0 - q * y1) = (A * x0 + B * y0) - (A * x1 + B * y1) * q := by
    rw [Int.mul_sub, Int.mul_sub, Int.add_mul, Int.mul_comm q x1, Int.mul_comm q y1, ← Int.mul_assoc, ← Int.mul_assoc]
    omega
  rw [e, h0, h1]
  omega
theorem small_of {n r k : Nat} (hr : 0 < r) (h : n * r ≤ k) : n ≤ max k 1 :=
  Nat.le_trans (Nat.le_trans (Nat.le_mul_of_pos_right n hr) h) (Nat.le_max_left _ _)
/-- The step: the rest, and each number less q times the next. -/
theorem GRow.step {A B : Nat} {whole : Bool} {r0 r1 : Nat} {x0 y0 x1 y1 : Int} (h : GRow A B whole r0 r1 x0 y0 x1 y1) (h1 : r1 ≠ 0) :
    GRow A B whole r1 (r0 % r1) x1 y1 (if whole = true then x0 - ((r0 / r1 : Nat) : Int) * x1 else 0) (if whole = true then y0 - ((r0 / r1 : Nat) : Int) * y1 else 0) := by
  have hq : r0 = r1 * (r0 / r1) + r0 % r1 := (Nat.div_add_mod r0 r1).symm
  have hlt : r0 % r1 < r1 := Nat.mod_lt _ (by omega)
  have hm := h.m1
  have hg : Nat.gcd r1 (r0 % r1) = Nat.gcd A B := by
    rw [← h.g, Nat.gcd_comm r1, ← Nat.gcd_rec, Nat.gcd_comm]
  by_cases hw : whole = true
  · rw [if_pos hw, if_pos hw]
    have ex : (x0 - ((r0 / r1 : Nat) : Int) * x1).natAbs = x0.natAbs + r0 / r1 * x1.natAbs := sizes_add (by have := h.turn hw; omega)
    have ey : (y0 - ((r0 / r1 : Nat) : Int) * y1).natAbs = y0.natAbs + r0 / r1 * y1.natAbs := sizes_add (by have := h.turn hw; omega)
    have hsx : (x0 - ((r0 / r1 : Nat) : Int) * x1).natAbs * r1 + x1.natAbs * (r0 % r1) = B := by rw [ex]; exact sum_step hq (h.sx hw)
    have hsy : (y0 - ((r0 / r1 : Nat) : Int) * y1).natAbs * r1 + y1.natAbs * (r0 % r1) = A := by rw [ey]; exact sum_step hq (h.sy hw)
    refine ⟨hg, hm, by omega, h.bx1, h.by1, small_of (by omega) (Nat.le_trans (Nat.le_add_right _ _) (Nat.le_of_eq hsx)), small_of (by omega) (Nat.le_trans (Nat.le_add_right _ _) (Nat.le_of_eq hsy)), h.made1, fun _ => made_step (h.made0 hw) (h.made1 hw), fun _ => hsx, fun _ => hsy, fun _ => ?_⟩
    rcases h.turn hw with ⟨a, b, c, d⟩ | ⟨a, b, c, d⟩
    · exact .inr ⟨b, side_of ⟨a, b⟩, d, side_of' ⟨c, d⟩⟩
    · exact .inl ⟨b, side_of' ⟨a, b⟩, d, side_of ⟨c, d⟩⟩
  · rw [if_neg hw, if_neg hw]
    exact ⟨hg, hm, by omega, h.bx1, h.by1, Nat.zero_le _, Nat.zero_le _, fun e => absurd e hw, fun e => absurd e hw, fun e => absurd e hw, fun e => absurd e hw, fun e => absurd e hw⟩
theorem lc_max {m n a k : Nat} (hm : lc m ≤ k) (hn : lc n ≤ k) (h : a ≤ max m n) : lc a ≤ k := by
  rcases Nat.le_total m n with h1 | h1
  · rw [Nat.max_eq_right h1] at h; exact Nat.le_trans (lc_mono h) hn
  · rw [Nat.max_eq_left h1] at h; exact Nat.le_trans (lc_mono h) hm
theorem GRow.small {A B : Nat} {whole : Bool} {r0 r1 : Nat} {x0 y0 x1 y1 : Int} (h : GRow A B whole r0 r1 x0 y0 x1 y1) (ha : lc A ≤ 90) (hb : lc B ≤ 90) :
    lc r0 ≤ 90 ∧ lc r1 ≤ 90 ∧ lc x0.natAbs ≤ 90 ∧ lc y0.natAbs ≤ 90 ∧ lc x1.natAbs ≤ 90 ∧ lc y1.natAbs ≤ 90 := by
  have h1 : lc 1 ≤ 90 := by
    have h2 : lc 1 ≤ 1 := lc_le.2 (by rw [Nat.pow_one, W64_eq]; decide)
    omega
  exact ⟨lc_max ha hb h.m0, lc_max ha hb h.m1, lc_max hb h1 h.bx0, lc_max ha h1 h.by0, lc_max hb h1 h.bx1, lc_max ha h1 h.by1⟩
theorem GRow.told {A B : Nat} {whole : Bool} {r0 : Nat} {x0 y0 x1 y1 : Int} (h : GRow A B whole r0 0 x0 y0 x1 y1) : r0 = Nat.gcd A B := by
  rw [← h.g, Nat.gcd_zero_right]
end Go.Proofs.YtonbhpadoplpkaaGreat
/- The package gcd, by the abstract machine: run. -/
namespace Go.Proofs.YtonbhpadoplpkaaGreat
open Go.RowKit Go.Deep
/-- The run from rest to rest. -/
def euc (whole : Bool) (n0 n1 : Nat) (x0 y0 x1 y1 : Int) : Nat × Int × Int :=
  if _h : n1 = 0 then (n0, x0, y0)
  else euc whole n1 (n0 % n1) x1 y1 (if whole = true then x0 - ((n0 / n1 : Nat) : Int) * x1 else 0) (if whole = true then y0 - ((n0 / n1 : Nat) : Int) * y1 else 0)
termination_by n1
decreasing_by exact Nat.mod_lt _ (Nat.pos_of_ne_zero _h)
theorem euc_zero (whole : Bool) (n0 : Nat) (x0 y0 x1 y1 : Int) : euc whole n0 0 x0 y0 x1 y1 = (n0, x0, y0) := by rw [euc, dif_pos rfl]
theorem euc_step (whole : Bool) (n0 n1 : Nat) (x0 y0 x1 y1 : Int) (h : n1 ≠ 0) : euc whole n0 n1 x0 y0 x1 y1 =
    euc whole n1 (n0 % n1) x1 y1 (if whole = true then x0 - ((n0 / n1 : Nat) : Int) * x1 else 0) (if whole = true then y0 - ((n0 / n1 : Nat) : Int) * y1 else 0) := by rw [euc, dif_neg h]
def eucR (whole : Bool) (a b : Nat) : Nat × Int × Int := euc whole a b 1 0 0 1
theorem rawOf_zero : rawOf 0 = (false, []) := by unfold rawOf; rw [show (0 : Int).natAbs = 0 from rfl, limbs_zero]; rfl
theorem rawOf_len {n : Nat} : (rawOf (n : Int)).2.length = 0 ↔ n = 0 := by
  show (limbs (n : Int).natAbs).length = 0 ↔ n = 0
  rw [Int.natAbs_natCast, List.length_eq_zero_iff]
  exact limbs_eq_nil
structure GS where
  (n0 n1 : Nat) (x0 y0 x1 y1 : Int) (q0 q1 q2 q3 q4 q5 : Raw)
structure GSok (a b : Nat) (whole : Bool) (p : GS) : Prop where
  h0 : p.q0 = rawOf (p.n0 : Int)
  h1 : p.q1 = rawOf p.x0
  h2 : p.q2 = rawOf p.y0
  h3 : p.q3 = rawOf (p.n1 : Int)
  h4 : p.q4 = rawOf p.x1
  h5 : p.q5 = rawOf p.y1
  g : GRow a b whole p.n0 p.n1 p.x0 p.y0 p.x1 p.y1
  e : euc whole p.n0 p.n1 p.x0 p.y0 p.x1 p.y1 = eucR whole a b
/-- A row of three numbers. -/
abbrev cell6 (x y z : Raw) : List AC := [.b x.1, .st (magP x.2), .b y.1, .st (magP y.2), .b z.1, .st (magP z.2)]
set_option maxHeartbeats 1000000 in
set_option maxRecDepth 100000 in
theorem ct_run (a b : Int) (whole : Bool) (ha : lc a.natAbs ≤ 90) (hb : lc b.natAbs ≤ 90) :
    Ct Tryz.prog 63 [aZ a, aZ b, .val (aB whole)] (.val (.agg (cell6 (rawOf ((eucR whole a.natAbs b.natAbs).1 : Int)) (rawOf (eucR whole a.natAbs b.natAbs).2.1) (rawOf (eucR whole a.natAbs b.natAbs).2.2)))) := by
  have hla : lc a.natAbs ≤ 1099511627776 := by omega
  have hlb : lc b.natAbs ≤ 1099511627776 := by omega
  refine ct_of_wp [.cell 6 77] [(0, aZ a), (1, aZ b), (2, .val (aB whole))] 82 Tryz.func63 rfl rfl rfl rfl rfl rfl rfl rfl ?_
  intro G0 w0
  repeat first
    | refine Wp_seq ?_
    | refine Wp_region tm_mixed ?_
    | refine AW_move rfl rfl ?_
    | refine AW_assign rfl rfl ?_
    | refine AW_load rfl ty_num rfl rfl rfl rfl ?_
    | refine AW_load rfl ty_row rfl rfl rfl rfl ?_
    | refine AW_load rfl ty_rows rfl rfl rfl rfl ?_
    | refine AW_store ty_num rfl rfl rfl rfl rfl rfl rfl ?_
    | refine AW_store ty_row rfl rfl rfl rfl rfl rfl rfl ?_
    | refine AW_store ty_rows rfl rfl rfl rfl rfl rfl rfl ?_
    | refine AW_extract rfl rfl rfl ?_
    | refine AW_alloc rfl tz_num ?_
    | refine AW_alloc rfl tz_row ?_
    | refine AW_alloc rfl tz_rows ?_
    | refine AW_box rfl rfl (row := true) rfl (fun h => by cases h) rfl ?_
    | refine AW_not rfl rfl ?_
    | refine AW_build rfl tb_num rfl ?_
    | refine AW_build rfl tb_row rfl ?_
    | refine AW_build rfl tb_rows rfl ?_
    | refine AW_call rfl rfl (by first | exact ct_gsize _ (by assumption) | exact ct_limbOf 1 (by decide) (by decide) | exact ct_gzero _ | exact ct_Mul0 _ _ (by omega) (by omega) (by omega) | exact ct_Sub0 _ _ (by omega) (by assumption) (by assumption) | exact ct_TruncN _ _ (by assumption) (by assumption) (by assumption)) ?_
    | refine AW_ints rfl tu_nums ti_num ti_size ti_zero rfl rfl rfl (by first | exact .cons _ _ _ _ _ rfl (.cons _ _ _ _ _ rfl (.nil _)) | exact .cons _ _ _ _ _ rfl (.cons _ _ _ _ _ rfl (.cons _ _ _ _ _ rfl (.cons _ _ _ _ _ rfl (.nil _)))) | exact .cons _ _ _ _ _ rfl (.cons _ _ _ _ _ rfl (.cons _ _ _ _ _ rfl (.nil _))) | exact .cons _ _ _ _ _ rfl (.cons _ _ _ _ _ rfl (.cons _ _ _ _ _ rfl (.cons _ _ _ _ _ rfl (.cons _ _ _ _ _ rfl (.nil _)))))) ?_
    | refine AW_fieldAddr rfl tf_row0 rfl rfl ?_ | refine AW_fieldAddr rfl tf_row1 rfl rfl ?_ | refine AW_arrayAt rfl Tryz.underlying116 ts_row rfl rfl rfl rfl ?_ | refine AW_arrayAt rfl Tryz.underlying75 ts_num rfl rfl rfl rfl ?_
    | refine AW_pickT rfl rfl rfl ?_
    | refine AW_pickF rfl rfl rfl ?_
    | refine AW_skip rfl rfl rfl rfl ?_
    | refine AW_pickTg rfl rfl rfl rfl rfl rfl ?_
    | refine AW_pickFg rfl rfl rfl rfl rfl rfl ?_
    | refine AW_moveg rfl rfl rfl rfl rfl ?_
    | refine AW_notg rfl rfl rfl rfl rfl ?_
    | refine AW_eqg rfl rfl rfl rfl rfl rfl ?_
    | refine AW_eq rfl rfl rfl ?_
    | refine AW_loadg rfl rfl rfl rfl ty_num rfl rfl rfl rfl ?_
    | refine AW_loadg rfl rfl rfl rfl ty_row rfl rfl rfl rfl ?_
    | refine AW_loadg rfl rfl rfl rfl ty_rows rfl rfl rfl rfl ?_
    | refine AW_callg rfl rfl rfl rfl rfl (by first | exact ct_gsize _ (by assumption) | exact ct_limbOf 1 (by decide) (by decide) | exact ct_gzero _ | exact ct_Mul0 _ _ (by omega) (by omega) (by omega) | exact ct_Sub0 _ _ (by omega) (by assumption) (by assumption) | exact ct_TruncN _ _ (by assumption) (by assumption) (by assumption)) ?_
    | refine AW_nil (fun (h : false = true) => by cases h) ?_
    | refine AW_nil (fun (_ : true = true) => by kernel_rfl) ?_
    | refine Wp_block ?_
    | refine Wp_skip ?_
    | refine Wp_exit ?_
    | refine Wp_ret ?_
  refine Wp_loop (fun p : GS => ⟨[(7, .val (.one (.ptr 3 0))), (6, .val (.one (.ptr 2 0))), (2, .val (aB whole))],
    [(3, 116, [.b p.q0.1, .st (magP p.q0.2), .b p.q1.1, .st (magP p.q1.2), .b p.q2.1, .st (magP p.q2.2), .b p.q3.1, .st (magP p.q3.2), .b p.q4.1, .st (magP p.q4.2), .b p.q5.1, .st (magP p.q5.2)]),
     (2, 77, [.b false, .st (magP []), .b false, .st (magP []), .b false, .st (magP [])])], 4⟩)
    (GSok a.natAbs b.natAbs whole) (fun p => p.n1) ⟨a.natAbs, b.natAbs, 1, 0, 0, 1, rawOf (a.natAbs : Int), rawOf 1, (false, []), rawOf (b.natAbs : Int), (false, []), rawOf 1⟩
    ⟨rfl, rfl, rawOf_zero.symm, rfl, rawOf_zero.symm, rfl, GRow.start _ _ _, rfl⟩ (le_of ⟨rfl, rfl, rfl, trivial⟩ ⟨rfl, rfl, trivial⟩ rfl) ?_
  rintro ⟨n0, n1, x0, y0, x1, y1, q0, q1, q2, q3, q4, q5⟩ ⟨h0, h1, h2, h3, h4, h5, hg, he⟩
  dsimp only at h0 h1 h2 h3 h4 h5 hg he
  subst h0 h1 h2 h3 h4 h5
  obtain ⟨s0, s1, s2, s3, s4, s5⟩ := hg.small ha hb
  dsimp only
  repeat first
    | refine Wp_seq ?_
    | refine Wp_region tm_mixed ?_
    | refine AW_move rfl rfl ?_
    | refine AW_assign rfl rfl ?_
    | refine AW_load rfl ty_num rfl rfl rfl rfl ?_
    | refine AW_load rfl ty_row rfl rfl rfl rfl ?_
    | refine AW_load rfl ty_rows rfl rfl rfl rfl ?_
    | refine AW_store ty_num rfl rfl rfl rfl rfl rfl rfl ?_
    | refine AW_store ty_row rfl rfl rfl rfl rfl rfl rfl ?_
    | refine AW_store ty_rows rfl rfl rfl rfl rfl rfl rfl ?_
    | refine AW_extract rfl rfl rfl ?_
    | refine AW_alloc rfl tz_num ?_
    | refine AW_alloc rfl tz_row ?_
    | refine AW_alloc rfl tz_rows ?_
    | refine AW_box rfl rfl (row := true) rfl (fun h => by cases h) rfl ?_
    | refine AW_not rfl rfl ?_
    | refine AW_build rfl tb_num rfl ?_
    | refine AW_build rfl tb_row rfl ?_
    | refine AW_build rfl tb_rows rfl ?_
    | refine AW_call rfl rfl (by first | exact ct_gsize _ (by assumption) | exact ct_limbOf 1 (by decide) (by decide) | exact ct_gzero _ | exact ct_Mul0 _ _ (by omega) (by omega) (by omega) | exact ct_Sub0 _ _ (by omega) (by assumption) (by assumption) | exact ct_TruncN _ _ (by assumption) (by assumption) (by assumption)) ?_
    | refine AW_ints rfl tu_nums ti_num ti_size ti_zero rfl rfl rfl (by first | exact .cons _ _ _ _ _ rfl (.cons _ _ _ _ _ rfl (.nil _)) | exact .cons _ _ _ _ _ rfl (.cons _ _ _ _ _ rfl (.cons _ _ _ _ _ rfl (.cons _ _ _ _ _ rfl (.nil _)))) | exact .cons _ _ _ _ _ rfl (.cons _ _ _ _ _ rfl (.cons _ _ _ _ _ rfl (.nil _))) | exact .cons _ _ _ _ _ rfl (.cons _ _ _ _ _ rfl (.cons _ _ _ _ _ rfl (.cons _ _ _ _ _ rfl (.cons _ _ _ _ _ rfl (.nil _)))))) ?_
    | refine AW_fieldAddr rfl tf_row0 rfl rfl ?_ | refine AW_fieldAddr rfl tf_row1 rfl rfl ?_ | refine AW_arrayAt rfl Tryz.underlying116 ts_row rfl rfl rfl rfl ?_ | refine AW_arrayAt rfl Tryz.underlying75 ts_num rfl rfl rfl rfl ?_
    | refine AW_pickT rfl rfl rfl ?_
    | refine AW_pickF rfl rfl rfl ?_
    | refine AW_skip rfl rfl rfl rfl ?_
    | refine AW_pickTg rfl rfl rfl rfl rfl rfl ?_
    | refine AW_pickFg rfl rfl rfl rfl rfl rfl ?_
    | refine AW_moveg rfl rfl rfl rfl rfl ?_
    | refine AW_notg rfl rfl rfl rfl rfl ?_
    | refine AW_eqg rfl rfl rfl rfl rfl rfl ?_
    | refine AW_eq rfl rfl rfl ?_
    | refine AW_loadg rfl rfl rfl rfl ty_num rfl rfl rfl rfl ?_
    | refine AW_loadg rfl rfl rfl rfl ty_row rfl rfl rfl rfl ?_
    | refine AW_loadg rfl rfl rfl rfl ty_rows rfl rfl rfl rfl ?_
    | refine AW_callg rfl rfl rfl rfl rfl (by first | exact ct_gsize _ (by assumption) | exact ct_limbOf 1 (by decide) (by decide) | exact ct_gzero _ | exact ct_Mul0 _ _ (by omega) (by omega) (by omega) | exact ct_Sub0 _ _ (by omega) (by assumption) (by assumption) | exact ct_TruncN _ _ (by assumption) (by assumption) (by assumption)) ?_
    | refine AW_nil (fun (h : false = true) => by cases h) ?_
    | refine AW_nil (fun (_ : true = true) => by kernel_rfl) ?_
    | refine Wp_block ?_
    | refine Wp_skip ?_
    | refine Wp_exit ?_
    | refine Wp_ret ?_
  refine Wp_cond rfl (fun hc => ?_) (fun hc => ?_)
  · have hn : n1 ≠ 0 := fun e => by rw [decide_eq_true (rawOf_len.2 e)] at hc; cases hc
    repeat first
      | refine Wp_seq ?_
      | refine Wp_region tm_mixed ?_
      | refine AW_move rfl rfl ?_
      | refine AW_assign rfl rfl ?_
      | refine AW_load rfl ty_num rfl rfl rfl rfl ?_
      | refine AW_load rfl ty_row rfl rfl rfl rfl ?_
      | refine AW_load rfl ty_rows rfl rfl rfl rfl ?_
      | refine AW_store ty_num rfl rfl rfl rfl rfl rfl rfl ?_
      | refine AW_store ty_row rfl rfl rfl rfl rfl rfl rfl ?_
      | refine AW_store ty_rows rfl rfl rfl rfl rfl rfl rfl ?_
      | refine AW_extract rfl rfl rfl ?_
      | refine AW_alloc rfl tz_num ?_
      | refine AW_alloc rfl tz_row ?_
      | refine AW_alloc rfl tz_rows ?_
      | refine AW_box rfl rfl (row := true) rfl (fun h => by cases h) rfl ?_
      | refine AW_not rfl rfl ?_
      | refine AW_build rfl tb_num rfl ?_
      | refine AW_build rfl tb_row rfl ?_
      | refine AW_build rfl tb_rows rfl ?_
      | refine AW_call rfl rfl (by first | exact ct_gsize _ (by assumption) | exact ct_limbOf 1 (by decide) (by decide) | exact ct_gzero _ | exact ct_Mul0 _ _ (by omega) (by omega) (by omega) | exact ct_Sub0 _ _ (by omega) (by assumption) (by assumption) | exact ct_TruncN _ _ (by assumption) (by assumption) (by assumption)) ?_
      | refine AW_ints rfl tu_nums ti_num ti_size ti_zero rfl rfl rfl (by first | exact .cons _ _ _ _ _ rfl (.cons _ _ _ _ _ rfl (.nil _)) | exact .cons _ _ _ _ _ rfl (.cons _ _ _ _ _ rfl (.cons _ _ _ _ _ rfl (.cons _ _ _ _ _ rfl (.nil _)))) | exact .cons _ _ _ _ _ rfl (.cons _ _ _ _ _ rfl (.cons _ _ _ _ _ rfl (.nil _))) | exact .cons _ _ _ _ _ rfl (.cons _ _ _ _ _ rfl (.cons _ _ _ _ _ rfl (.cons _ _ _ _ _ rfl (.cons _ _ _ _ _ rfl (.nil _)))))) ?_
      | refine AW_fieldAddr rfl tf_row0 rfl rfl ?_ | refine AW_fieldAddr rfl tf_row1 rfl rfl ?_ | refine AW_arrayAt rfl Tryz.underlying116 ts_row rfl rfl rfl rfl ?_ | refine AW_arrayAt rfl Tryz.underlying75 ts_num rfl rfl rfl rfl ?_
      | refine AW_pickT rfl rfl rfl ?_
      | refine AW_pickF rfl rfl rfl ?_
      | refine AW_skip rfl rfl rfl rfl ?_
      | refine AW_pickTg rfl rfl rfl rfl rfl rfl ?_
      | refine AW_pickFg rfl rfl rfl rfl rfl rfl ?_
      | refine AW_moveg rfl rfl rfl rfl rfl ?_
      | refine AW_notg rfl rfl rfl rfl rfl ?_
      | refine AW_eqg rfl rfl rfl rfl rfl rfl ?_
      | refine AW_eq rfl rfl rfl ?_
      | refine AW_loadg rfl rfl rfl rfl ty_num rfl rfl rfl rfl ?_
      | refine AW_loadg rfl rfl rfl rfl ty_row rfl rfl rfl rfl ?_
      | refine AW_loadg rfl rfl rfl rfl ty_rows rfl rfl rfl rfl ?_
      | refine AW_callg rfl rfl rfl rfl rfl (by first | exact ct_gsize _ (by assumption) | exact ct_limbOf 1 (by decide) (by decide) | exact ct_gzero _ | exact ct_Mul0 _ _ (by omega) (by omega) (by omega) | exact ct_Sub0 _ _ (by omega) (by assumption) (by assumption) | exact ct_TruncN _ _ (by assumption) (by assumption) (by assumption)) ?_
      | refine AW_nil (fun (h : false = true) => by cases h) ?_
      | refine AW_nil (fun (_ : true = true) => by kernel_rfl) ?_
      | refine Wp_block ?_
      | refine Wp_skip ?_
      | refine Wp_exit ?_
      | refine Wp_ret ?_
    obtain ⟨nx, hnx⟩ : ∃ nx : Int, (if whole = true then x0 - ((n0 / n1 : Nat) : Int) * x1 else 0) = nx := ⟨_, rfl⟩
    obtain ⟨ny, hny⟩ : ∃ ny : Int, (if whole = true then y0 - ((n0 / n1 : Nat) : Int) * y1 else 0) = ny := ⟨_, rfl⟩
    have hg2 := hg.step hn
    rw [euc_step _ _ _ _ _ _ _ hn] at he
    rw [hnx, hny] at hg2 he
    have sq : lc ((n0 / n1 : Nat) : Int).natAbs ≤ 90 := by rw [Int.natAbs_natCast]; exact Nat.le_trans (lc_mono (Nat.div_le_self _ _)) s0
    obtain ⟨-, -, -, -, t4, t5⟩ := hg2.small ha hb
    have k1 : lc (((n0 / n1 : Nat) : Int) * x1).natAbs ≤ 4096 := by rw [Int.natAbs_mul]; have := lc_mul ((n0 / n1 : Nat) : Int).natAbs x1.natAbs; omega
    have k3 : lc (((n0 / n1 : Nat) : Int) * y1).natAbs ≤ 4096 := by rw [Int.natAbs_mul]; have := lc_mul ((n0 / n1 : Nat) : Int).natAbs y1.natAbs; omega
    refine Wp_loop (fun p : Nat × Raw × Raw => ⟨[(48, .val (aI (p.1 : Int))), (11, .val (.one (.ptr 6 0))), (9, .val (.one (.ptr 5 0))), (8, .val (.one (.ptr 4 0))), (7, .val (.one (.ptr 3 0))), (6, .val (.one (.ptr 2 0))), (2, .val (aB whole))],
      [(6, 77, [.b (rawOf ((n0 % n1 : Nat) : Int)).1, .st (magP (rawOf ((n0 % n1 : Nat) : Int)).2), .b p.2.1.1, .st (magP p.2.1.2), .b p.2.2.1, .st (magP p.2.2.2)]),
       (4, 24, [.b (rawOf ((n0 / n1 : Nat) : Int)).1, .st (magP (rawOf ((n0 / n1 : Nat) : Int)).2)]),
       (3, 116, [.b (rawOf (n0 : Int)).1, .st (magP (rawOf (n0 : Int)).2), .b (rawOf x0).1, .st (magP (rawOf x0).2), .b (rawOf y0).1, .st (magP (rawOf y0).2), .b (rawOf (n1 : Int)).1, .st (magP (rawOf (n1 : Int)).2), .b (rawOf x1).1, .st (magP (rawOf x1).2), .b (rawOf y1).1, .st (magP (rawOf y1).2)]),
       (2, 77, [.b false, .st (magP []), .b false, .st (magP []), .b false, .st (magP [])])], 7⟩)
      (fun p => p.1 ≤ 2 ∧ (1 ≤ p.1 → p.2.1 = rawOf nx) ∧ (2 ≤ p.1 → p.2.2 = rawOf ny) ∧ (p.1 = 0 → p.2.1 = (false, [])) ∧ (p.1 ≤ 1 → p.2.2 = (false, []))) (fun p => 2 - p.1) (0, (false, []), (false, []))
      ⟨by omega, by omega, by omega, fun _ => rfl, fun _ => rfl⟩ (le_of ⟨rfl, rfl, rfl, rfl, rfl, rfl, rfl, trivial⟩ ⟨rfl, rfl, rfl, rfl, trivial⟩ rfl) ?_
    rintro ⟨k, u, v⟩ ⟨hk, hu1, hv2, hu0, hv1⟩
    dsimp only at hk hu1 hv2 hu0 hv1 ⊢
    obtain rfl | rfl | rfl : k = 0 ∨ k = 1 ∨ k = 2 := by omega
    · obtain rfl := hu0 rfl
      obtain rfl := hv1 (by omega)
      have hx : nx = if whole = true then x0 - ((n0 / n1 : Nat) : Int) * x1 else 0 := hnx.symm
      repeat first
        | refine Wp_seq ?_
        | refine Wp_region tm_mixed ?_
        | refine AW_move rfl rfl ?_
        | refine AW_assign rfl rfl ?_
        | refine AW_load rfl ty_num rfl rfl rfl rfl ?_
        | refine AW_load rfl ty_row rfl rfl rfl rfl ?_
        | refine AW_load rfl ty_rows rfl rfl rfl rfl ?_
        | refine AW_store ty_num rfl rfl rfl rfl rfl rfl rfl ?_
        | refine AW_store ty_row rfl rfl rfl rfl rfl rfl rfl ?_
        | refine AW_store ty_rows rfl rfl rfl rfl rfl rfl rfl ?_
        | refine AW_extract rfl rfl rfl ?_
        | refine AW_alloc rfl tz_num ?_
        | refine AW_alloc rfl tz_row ?_
        | refine AW_alloc rfl tz_rows ?_
        | refine AW_box rfl rfl (row := true) rfl (fun h => by cases h) rfl ?_
        | refine AW_not rfl rfl ?_
        | refine AW_build rfl tb_num rfl ?_
        | refine AW_build rfl tb_row rfl ?_
        | refine AW_build rfl tb_rows rfl ?_
        | refine AW_call rfl rfl (by first | exact ct_gsize _ (by assumption) | exact ct_limbOf 1 (by decide) (by decide) | exact ct_gzero _ | exact ct_Mul0 _ _ (by omega) (by omega) (by omega) | exact ct_Sub0 _ _ (by omega) (by assumption) (by assumption) | exact ct_TruncN _ _ (by assumption) (by assumption) (by assumption)) ?_
        | refine AW_ints rfl tu_nums ti_num ti_size ti_zero rfl rfl rfl (by first | exact .cons _ _ _ _ _ rfl (.cons _ _ _ _ _ rfl (.nil _)) | exact .cons _ _ _ _ _ rfl (.cons _ _ _ _ _ rfl (.cons _ _ _ _ _ rfl (.cons _ _ _ _ _ rfl (.nil _)))) | exact .cons _ _ _ _ _ rfl (.cons _ _ _ _ _ rfl (.cons _ _ _ _ _ rfl (.nil _))) | exact .cons _ _ _ _ _ rfl (.cons _ _ _ _ _ rfl (.cons _ _ _ _ _ rfl (.cons _ _ _ _ _ rfl (.cons _ _ _ _ _ rfl (.nil _)))))) ?_
        | refine AW_fieldAddr rfl tf_row0 rfl rfl ?_ | refine AW_fieldAddr rfl tf_row1 rfl rfl ?_ | refine AW_arrayAt rfl Tryz.underlying116 ts_row rfl rfl rfl rfl ?_ | refine AW_arrayAt rfl Tryz.underlying75 ts_num rfl rfl rfl rfl ?_
        | refine AW_pickT rfl rfl rfl ?_
        | refine AW_pickF rfl rfl rfl ?_
        | refine AW_skip rfl rfl rfl rfl ?_
        | refine AW_pickTg rfl rfl rfl rfl rfl rfl ?_
        | refine AW_pickFg rfl rfl rfl rfl rfl rfl ?_
        | refine AW_moveg rfl rfl rfl rfl rfl ?_
        | refine AW_notg rfl rfl rfl rfl rfl ?_
        | refine AW_eqg rfl rfl rfl rfl rfl rfl ?_
        | refine AW_eq rfl rfl rfl ?_
        | refine AW_loadg rfl rfl rfl rfl ty_num rfl rfl rfl rfl ?_
        | refine AW_loadg rfl rfl rfl rfl ty_row rfl rfl rfl rfl ?_
        | refine AW_loadg rfl rfl rfl rfl ty_rows rfl rfl rfl rfl ?_
        | refine AW_callg rfl rfl rfl rfl rfl (by first | exact ct_gsize _ (by assumption) | exact ct_limbOf 1 (by decide) (by decide) | exact ct_gzero _ | exact ct_Mul0 _ _ (by omega) (by omega) (by omega) | exact ct_Sub0 _ _ (by omega) (by assumption) (by assumption) | exact ct_TruncN _ _ (by assumption) (by assumption) (by assumption)) ?_
        | refine AW_nil (fun (h : false = true) => by cases h) ?_
        | refine AW_nil (fun (_ : true = true) => by kernel_rfl) ?_
        | refine Wp_block ?_
        | refine Wp_skip ?_
        | refine Wp_exit ?_
        | refine Wp_ret ?_
      refine AW_quiet rfl (q_lt rfl rfl) ?_
      repeat first
        | refine Wp_seq ?_
        | refine Wp_region tm_mixed ?_
        | refine AW_move rfl rfl ?_
        | refine AW_assign rfl rfl ?_
        | refine AW_load rfl ty_num rfl rfl rfl rfl ?_
        | refine AW_load rfl ty_row rfl rfl rfl rfl ?_
        | refine AW_load rfl ty_rows rfl rfl rfl rfl ?_
        | refine AW_store ty_num rfl rfl rfl rfl rfl rfl rfl ?_
        | refine AW_store ty_row rfl rfl rfl rfl rfl rfl rfl ?_
        | refine AW_store ty_rows rfl rfl rfl rfl rfl rfl rfl ?_
        | refine AW_extract rfl rfl rfl ?_
        | refine AW_alloc rfl tz_num ?_
        | refine AW_alloc rfl tz_row ?_
        | refine AW_alloc rfl tz_rows ?_
        | refine AW_box rfl rfl (row := true) rfl (fun h => by cases h) rfl ?_
        | refine AW_not rfl rfl ?_
        | refine AW_build rfl tb_num rfl ?_
        | refine AW_build rfl tb_row rfl ?_
        | refine AW_build rfl tb_rows rfl ?_
        | refine AW_call rfl rfl (by first | exact ct_gsize _ (by assumption) | exact ct_limbOf 1 (by decide) (by decide) | exact ct_gzero _ | exact ct_Mul0 _ _ (by omega) (by omega) (by omega) | exact ct_Sub0 _ _ (by omega) (by assumption) (by assumption) | exact ct_TruncN _ _ (by assumption) (by assumption) (by assumption)) ?_
        | refine AW_ints rfl tu_nums ti_num ti_size ti_zero rfl rfl rfl (by first | exact .cons _ _ _ _ _ rfl (.cons _ _ _ _ _ rfl (.nil _)) | exact .cons _ _ _ _ _ rfl (.cons _ _ _ _ _ rfl (.cons _ _ _ _ _ rfl (.cons _ _ _ _ _ rfl (.nil _)))) | exact .cons _ _ _ _ _ rfl (.cons _ _ _ _ _ rfl (.cons _ _ _ _ _ rfl (.nil _))) | exact .cons _ _ _ _ _ rfl (.cons _ _ _ _ _ rfl (.cons _ _ _ _ _ rfl (.cons _ _ _ _ _ rfl (.cons _ _ _ _ _ rfl (.nil _)))))) ?_
        | refine AW_fieldAddr rfl tf_row0 rfl rfl ?_ | refine AW_fieldAddr rfl tf_row1 rfl rfl ?_ | refine AW_arrayAt rfl Tryz.underlying116 ts_row rfl rfl rfl rfl ?_ | refine AW_arrayAt rfl Tryz.underlying75 ts_num rfl rfl rfl rfl ?_
        | refine AW_pickT rfl rfl rfl ?_
        | refine AW_pickF rfl rfl rfl ?_
        | refine AW_skip rfl rfl rfl rfl ?_
        | refine AW_pickTg rfl rfl rfl rfl rfl rfl ?_
        | refine AW_pickFg rfl rfl rfl rfl rfl rfl ?_
        | refine AW_moveg rfl rfl rfl rfl rfl ?_
        | refine AW_notg rfl rfl rfl rfl rfl ?_
        | refine AW_eqg rfl rfl rfl rfl rfl rfl ?_
        | refine AW_eq rfl rfl rfl ?_
        | refine AW_loadg rfl rfl rfl rfl ty_num rfl rfl rfl rfl ?_
        | refine AW_loadg rfl rfl rfl rfl ty_row rfl rfl rfl rfl ?_
        | refine AW_loadg rfl rfl rfl rfl ty_rows rfl rfl rfl rfl ?_
        | refine AW_callg rfl rfl rfl rfl rfl (by first | exact ct_gsize _ (by assumption) | exact ct_limbOf 1 (by decide) (by decide) | exact ct_gzero _ | exact ct_Mul0 _ _ (by omega) (by omega) (by omega) | exact ct_Sub0 _ _ (by omega) (by assumption) (by assumption) | exact ct_TruncN _ _ (by assumption) (by assumption) (by assumption)) ?_
        | refine AW_nil (fun (h : false = true) => by cases h) ?_
        | refine AW_nil (fun (_ : true = true) => by kernel_rfl) ?_
        | refine Wp_block ?_
        | refine Wp_skip ?_
        | refine Wp_exit ?_
        | refine Wp_ret ?_
      refine Wp_condT rfl ?_
      repeat first
        | refine Wp_seq ?_
        | refine Wp_region tm_mixed ?_
        | refine AW_move rfl rfl ?_
        | refine AW_assign rfl rfl ?_
        | refine AW_load rfl ty_num rfl rfl rfl rfl ?_
        | refine AW_load rfl ty_row rfl rfl rfl rfl ?_
        | refine AW_load rfl ty_rows rfl rfl rfl rfl ?_
        | refine AW_store ty_num rfl rfl rfl rfl rfl rfl rfl ?_
        | refine AW_store ty_row rfl rfl rfl rfl rfl rfl rfl ?_
        | refine AW_store ty_rows rfl rfl rfl rfl rfl rfl rfl ?_
        | refine AW_extract rfl rfl rfl ?_
        | refine AW_alloc rfl tz_num ?_
        | refine AW_alloc rfl tz_row ?_
        | refine AW_alloc rfl tz_rows ?_
        | refine AW_box rfl rfl (row := true) rfl (fun h => by cases h) rfl ?_
        | refine AW_not rfl rfl ?_
        | refine AW_build rfl tb_num rfl ?_
        | refine AW_build rfl tb_row rfl ?_
        | refine AW_build rfl tb_rows rfl ?_
        | refine AW_call rfl rfl (by first | exact ct_gsize _ (by assumption) | exact ct_limbOf 1 (by decide) (by decide) | exact ct_gzero _ | exact ct_Mul0 _ _ (by omega) (by omega) (by omega) | exact ct_Sub0 _ _ (by omega) (by assumption) (by assumption) | exact ct_TruncN _ _ (by assumption) (by assumption) (by assumption)) ?_
        | refine AW_ints rfl tu_nums ti_num ti_size ti_zero rfl rfl rfl (by first | exact .cons _ _ _ _ _ rfl (.cons _ _ _ _ _ rfl (.nil _)) | exact .cons _ _ _ _ _ rfl (.cons _ _ _ _ _ rfl (.cons _ _ _ _ _ rfl (.cons _ _ _ _ _ rfl (.nil _)))) | exact .cons _ _ _ _ _ rfl (.cons _ _ _ _ _ rfl (.cons _ _ _ _ _ rfl (.nil _))) | exact .cons _ _ _ _ _ rfl (.cons _ _ _ _ _ rfl (.cons _ _ _ _ _ rfl (.cons _ _ _ _ _ rfl (.cons _ _ _ _ _ rfl (.nil _)))))) ?_
        | refine AW_fieldAddr rfl tf_row0 rfl rfl ?_ | refine AW_fieldAddr rfl tf_row1 rfl rfl ?_ | refine AW_arrayAt rfl Tryz.underlying116 ts_row rfl rfl rfl rfl ?_ | refine AW_arrayAt rfl Tryz.underlying75 ts_num rfl rfl rfl rfl ?_
        | refine AW_pickT rfl rfl rfl ?_
        | refine AW_pickF rfl rfl rfl ?_
        | refine AW_skip rfl rfl rfl rfl ?_
        | refine AW_pickTg rfl rfl rfl rfl rfl rfl ?_
        | refine AW_pickFg rfl rfl rfl rfl rfl rfl ?_
        | refine AW_moveg rfl rfl rfl rfl rfl ?_
        | refine AW_notg rfl rfl rfl rfl rfl ?_
        | refine AW_eqg rfl rfl rfl rfl rfl rfl ?_
        | refine AW_eq rfl rfl rfl ?_
        | refine AW_loadg rfl rfl rfl rfl ty_num rfl rfl rfl rfl ?_
        | refine AW_loadg rfl rfl rfl rfl ty_row rfl rfl rfl rfl ?_
        | refine AW_loadg rfl rfl rfl rfl ty_rows rfl rfl rfl rfl ?_
        | refine AW_callg rfl rfl rfl rfl rfl (by first | exact ct_gsize _ (by assumption) | exact ct_limbOf 1 (by decide) (by decide) | exact ct_gzero _ | exact ct_Mul0 _ _ (by omega) (by omega) (by omega) | exact ct_Sub0 _ _ (by omega) (by assumption) (by assumption) | exact ct_TruncN _ _ (by assumption) (by assumption) (by assumption)) ?_
        | refine AW_nil (fun (h : false = true) => by cases h) ?_
        | refine AW_nil (fun (_ : true = true) => by kernel_rfl) ?_
        | refine Wp_block ?_
        | refine Wp_skip ?_
        | refine Wp_exit ?_
        | refine Wp_ret ?_
      refine Wp_cond rfl (fun hw => ?_) (fun hw => ?_)
      · subst hw
        rw [if_pos rfl] at hx
        have k2 : lc (x0 - ((n0 / n1 : Nat) : Int) * x1).natAbs ≤ 4096 := by rw [← hx]; exact Nat.le_trans t4 (by decide)
        repeat first
          | refine Wp_seq ?_
          | refine Wp_region tm_mixed ?_
          | refine AW_move rfl rfl ?_
          | refine AW_assign rfl rfl ?_
          | refine AW_load rfl ty_num rfl rfl rfl rfl ?_
          | refine AW_load rfl ty_row rfl rfl rfl rfl ?_
          | refine AW_load rfl ty_rows rfl rfl rfl rfl ?_
          | refine AW_store ty_num rfl rfl rfl rfl rfl rfl rfl ?_
          | refine AW_store ty_row rfl rfl rfl rfl rfl rfl rfl ?_
          | refine AW_store ty_rows rfl rfl rfl rfl rfl rfl rfl ?_
          | refine AW_extract rfl rfl rfl ?_
          | refine AW_alloc rfl tz_num ?_
          | refine AW_alloc rfl tz_row ?_
          | refine AW_alloc rfl tz_rows ?_
          | refine AW_box rfl rfl (row := true) rfl (fun h => by cases h) rfl ?_
          | refine AW_not rfl rfl ?_
          | refine AW_build rfl tb_num rfl ?_
          | refine AW_build rfl tb_row rfl ?_
          | refine AW_build rfl tb_rows rfl ?_
          | refine AW_call rfl rfl (by first | exact ct_gsize _ (by assumption) | exact ct_limbOf 1 (by decide) (by decide) | exact ct_gzero _ | exact ct_Mul0 _ _ (by omega) (by omega) (by omega) | exact ct_Sub0 _ _ (by omega) (by assumption) (by assumption) | exact ct_TruncN _ _ (by assumption) (by assumption) (by assumption)) ?_
          | refine AW_ints rfl tu_nums ti_num ti_size ti_zero rfl rfl rfl (by first | exact .cons _ _ _ _ _ rfl (.cons _ _ _ _ _ rfl (.nil _)) | exact .cons _ _ _ _ _ rfl (.cons _ _ _ _ _ rfl (.cons _ _ _ _ _ rfl (.cons _ _ _ _ _ rfl (.nil _)))) | exact .cons _ _ _ _ _ rfl (.cons _ _ _ _ _ rfl (.cons _ _ _ _ _ rfl (.nil _))) | exact .cons _ _ _ _ _ rfl (.cons _ _ _ _ _ rfl (.cons _ _ _ _ _ rfl (.cons _ _ _ _ _ rfl (.cons _ _ _ _ _ rfl (.nil _)))))) ?_
          | refine AW_fieldAddr rfl tf_row0 rfl rfl ?_ | refine AW_fieldAddr rfl tf_row1 rfl rfl ?_ | refine AW_arrayAt rfl Tryz.underlying116 ts_row rfl rfl rfl rfl ?_ | refine AW_arrayAt rfl Tryz.underlying75 ts_num rfl rfl rfl rfl ?_
          | refine AW_pickT rfl rfl rfl ?_
          | refine AW_pickF rfl rfl rfl ?_
          | refine AW_skip rfl rfl rfl rfl ?_
          | refine AW_pickTg rfl rfl rfl rfl rfl rfl ?_
          | refine AW_pickFg rfl rfl rfl rfl rfl rfl ?_
          | refine AW_moveg rfl rfl rfl rfl rfl ?_
          | refine AW_notg rfl rfl rfl rfl rfl ?_
          | refine AW_eqg rfl rfl rfl rfl rfl rfl ?_
          | refine AW_eq rfl rfl rfl ?_
          | refine AW_loadg rfl rfl rfl rfl ty_num rfl rfl rfl rfl ?_
          | refine AW_loadg rfl rfl rfl rfl ty_row rfl rfl rfl rfl ?_
          | refine AW_loadg rfl rfl rfl rfl ty_rows rfl rfl rfl rfl ?_
          | refine AW_callg rfl rfl rfl rfl rfl (by first | exact ct_gsize _ (by assumption) | exact ct_limbOf 1 (by decide) (by decide) | exact ct_gzero _ | exact ct_Mul0 _ _ (by omega) (by omega) (by omega) | exact ct_Sub0 _ _ (by omega) (by assumption) (by assumption) | exact ct_TruncN _ _ (by assumption) (by assumption) (by assumption)) ?_
          | refine AW_nil (fun (h : false = true) => by cases h) ?_
          | refine AW_nil (fun (_ : true = true) => by kernel_rfl) ?_
          | refine Wp_block ?_
          | refine Wp_skip ?_
          | refine Wp_exit ?_
          | refine Wp_ret ?_
        refine AW_quiet rfl (q_add rfl rfl) ?_
        repeat first
          | refine Wp_seq ?_
          | refine Wp_region tm_mixed ?_
          | refine AW_move rfl rfl ?_
          | refine AW_assign rfl rfl ?_
          | refine AW_load rfl ty_num rfl rfl rfl rfl ?_
          | refine AW_load rfl ty_row rfl rfl rfl rfl ?_
          | refine AW_load rfl ty_rows rfl rfl rfl rfl ?_
          | refine AW_store ty_num rfl rfl rfl rfl rfl rfl rfl ?_
          | refine AW_store ty_row rfl rfl rfl rfl rfl rfl rfl ?_
          | refine AW_store ty_rows rfl rfl rfl rfl rfl rfl rfl ?_
          | refine AW_extract rfl rfl rfl ?_
          | refine AW_alloc rfl tz_num ?_
          | refine AW_alloc rfl tz_row ?_
          | refine AW_alloc rfl tz_rows ?_
          | refine AW_box rfl rfl (row := true) rfl (fun h => by cases h) rfl ?_
          | refine AW_not rfl rfl ?_
          | refine AW_build rfl tb_num rfl ?_
          | refine AW_build rfl tb_row rfl ?_
          | refine AW_build rfl tb_rows rfl ?_
          | refine AW_call rfl rfl (by first | exact ct_gsize _ (by assumption) | exact ct_limbOf 1 (by decide) (by decide) | exact ct_gzero _ | exact ct_Mul0 _ _ (by omega) (by omega) (by omega) | exact ct_Sub0 _ _ (by omega) (by assumption) (by assumption) | exact ct_TruncN _ _ (by assumption) (by assumption) (by assumption)) ?_
          | refine AW_ints rfl tu_nums ti_num ti_size ti_zero rfl rfl rfl (by first | exact .cons _ _ _ _ _ rfl (.cons _ _ _ _ _ rfl (.nil _)) | exact .cons _ _ _ _ _ rfl (.cons _ _ _ _ _ rfl (.cons _ _ _ _ _ rfl (.cons _ _ _ _ _ rfl (.nil _)))) | exact .cons _ _ _ _ _ rfl (.cons _ _ _ _ _ rfl (.cons _ _ _ _ _ rfl (.nil _))) | exact .cons _ _ _ _ _ rfl (.cons _ _ _ _ _ rfl (.cons _ _ _ _ _ rfl (.cons _ _ _ _ _ rfl (.cons _ _ _ _ _ rfl (.nil _)))))) ?_
          | refine AW_fieldAddr rfl tf_row0 rfl rfl ?_ | refine AW_fieldAddr rfl tf_row1 rfl rfl ?_ | refine AW_arrayAt rfl Tryz.underlying116 ts_row rfl rfl rfl rfl ?_ | refine AW_arrayAt rfl Tryz.underlying75 ts_num rfl rfl rfl rfl ?_
          | refine AW_pickT rfl rfl rfl ?_
          | refine AW_pickF rfl rfl rfl ?_
          | refine AW_skip rfl rfl rfl rfl ?_
          | refine AW_pickTg rfl rfl rfl rfl rfl rfl ?_
          | refine AW_pickFg rfl rfl rfl rfl rfl rfl ?_
          | refine AW_moveg rfl rfl rfl rfl rfl ?_
          | refine AW_notg rfl rfl rfl rfl rfl ?_
          | refine AW_eqg rfl rfl rfl rfl rfl rfl ?_
          | refine AW_eq rfl rfl rfl ?_
          | refine AW_loadg rfl rfl rfl rfl ty_num rfl rfl rfl rfl ?_
          | refine AW_loadg rfl rfl rfl rfl ty_row rfl rfl rfl rfl ?_
          | refine AW_loadg rfl rfl rfl rfl ty_rows rfl rfl rfl rfl ?_
          | refine AW_callg rfl rfl rfl rfl rfl (by first | exact ct_gsize _ (by assumption) | exact ct_limbOf 1 (by decide) (by decide) | exact ct_gzero _ | exact ct_Mul0 _ _ (by omega) (by omega) (by omega) | exact ct_Sub0 _ _ (by omega) (by assumption) (by assumption) | exact ct_TruncN _ _ (by assumption) (by assumption) (by assumption)) ?_
          | refine AW_nil (fun (h : false = true) => by cases h) ?_
          | refine AW_nil (fun (_ : true = true) => by kernel_rfl) ?_
          | refine Wp_block ?_
          | refine Wp_skip ?_
          | refine Wp_exit ?_
          | refine Wp_ret ?_
        exact ⟨(1, rawOf nx, (false, [])), ⟨by omega, fun _ => rfl, by omega, by omega, fun _ => rfl⟩, le_of ⟨rfl, rfl, rfl, rfl, rfl, rfl, rfl, trivial⟩ ⟨by rw [hx]; rfl, rfl, rfl, rfl, trivial⟩ rfl, by omega⟩
      · subst hw
        rw [if_neg (by decide)] at hx
        subst hx
        repeat first
          | refine Wp_seq ?_
          | refine Wp_region tm_mixed ?_
          | refine AW_move rfl rfl ?_
          | refine AW_assign rfl rfl ?_
          | refine AW_load rfl ty_num rfl rfl rfl rfl ?_
          | refine AW_load rfl ty_row rfl rfl rfl rfl ?_
          | refine AW_load rfl ty_rows rfl rfl rfl rfl ?_
          | refine AW_store ty_num rfl rfl rfl rfl rfl rfl rfl ?_
          | refine AW_store ty_row rfl rfl rfl rfl rfl rfl rfl ?_
          | refine AW_store ty_rows rfl rfl rfl rfl rfl rfl rfl ?_
          | refine AW_extract rfl rfl rfl ?_
          | refine AW_alloc rfl tz_num ?_
          | refine AW_alloc rfl tz_row ?_
          | refine AW_alloc rfl tz_rows ?_
          | refine AW_box rfl rfl (row := true) rfl (fun h => by cases h) rfl ?_
          | refine AW_not rfl rfl ?_
          | refine AW_build rfl tb_num rfl ?_
          | refine AW_build rfl tb_row rfl ?_
          | refine AW_build rfl tb_rows rfl ?_
          | refine AW_call rfl rfl (by first | exact ct_gsize _ (by assumption) | exact ct_limbOf 1 (by decide) (by decide) | exact ct_gzero _ | exact ct_Mul0 _ _ (by omega) (by omega) (by omega) | exact ct_Sub0 _ _ (by omega) (by assumption) (by assumption) | exact ct_TruncN _ _ (by assumption) (by assumption) (by assumption)) ?_
          | refine AW_ints rfl tu_nums ti_num ti_size ti_zero rfl rfl rfl (by first | exact .cons _ _ _ _ _ rfl (.cons _ _ _ _ _ rfl (.nil _)) | exact .cons _ _ _ _ _ rfl (.cons _ _ _ _ _ rfl (.cons _ _ _ _ _ rfl (.cons _ _ _ _ _ rfl (.nil _)))) | exact .cons _ _ _ _ _ rfl (.cons _ _ _ _ _ rfl (.cons _ _ _ _ _ rfl (.nil _))) | exact .cons _ _ _ _ _ rfl (.cons _ _ _ _ _ rfl (.cons _ _ _ _ _ rfl (.cons _ _ _ _ _ rfl (.cons _ _ _ _ _ rfl (.nil _)))))) ?_
          | refine AW_fieldAddr rfl tf_row0 rfl rfl ?_ | refine AW_fieldAddr rfl tf_row1 rfl rfl ?_ | refine AW_arrayAt rfl Tryz.underlying116 ts_row rfl rfl rfl rfl ?_ | refine AW_arrayAt rfl Tryz.underlying75 ts_num rfl rfl rfl rfl ?_
          | refine AW_pickT rfl rfl rfl ?_
          | refine AW_pickF rfl rfl rfl ?_
          | refine AW_skip rfl rfl rfl rfl ?_
          | refine AW_pickTg rfl rfl rfl rfl rfl rfl ?_
          | refine AW_pickFg rfl rfl rfl rfl rfl rfl ?_
          | refine AW_moveg rfl rfl rfl rfl rfl ?_
          | refine AW_notg rfl rfl rfl rfl rfl ?_
          | refine AW_eqg rfl rfl rfl rfl rfl rfl ?_
          | refine AW_eq rfl rfl rfl ?_
          | refine AW_loadg rfl rfl rfl rfl ty_num rfl rfl rfl rfl ?_
          | refine AW_loadg rfl rfl rfl rfl ty_row rfl rfl rfl rfl ?_
          | refine AW_loadg rfl rfl rfl rfl ty_rows rfl rfl rfl rfl ?_
          | refine AW_callg rfl rfl rfl rfl rfl (by first | exact ct_gsize _ (by assumption) | exact ct_limbOf 1 (by decide) (by decide) | exact ct_gzero _ | exact ct_Mul0 _ _ (by omega) (by omega) (by omega) | exact ct_Sub0 _ _ (by omega) (by assumption) (by assumption) | exact ct_TruncN _ _ (by assumption) (by assumption) (by assumption)) ?_
          | refine AW_nil (fun (h : false = true) => by cases h) ?_
          | refine AW_nil (fun (_ : true = true) => by kernel_rfl) ?_
          | refine Wp_block ?_
          | refine Wp_skip ?_
          | refine Wp_exit ?_
          | refine Wp_ret ?_
        refine AW_quiet rfl (q_add rfl rfl) ?_
        repeat first
          | refine Wp_seq ?_
          | refine Wp_region tm_mixed ?_
          | refine AW_move rfl rfl ?_
          | refine AW_assign rfl rfl ?_
          | refine AW_load rfl ty_num rfl rfl rfl rfl ?_
          | refine AW_load rfl ty_row rfl rfl rfl rfl ?_
          | refine AW_load rfl ty_rows rfl rfl rfl rfl ?_
          | refine AW_store ty_num rfl rfl rfl rfl rfl rfl rfl ?_
          | refine AW_store ty_row rfl rfl rfl rfl rfl rfl rfl ?_
          | refine AW_store ty_rows rfl rfl rfl rfl rfl rfl rfl ?_
          | refine AW_extract rfl rfl rfl ?_
          | refine AW_alloc rfl tz_num ?_
          | refine AW_alloc rfl tz_row ?_
          | refine AW_alloc rfl tz_rows ?_
          | refine AW_box rfl rfl (row := true) rfl (fun h => by cases h) rfl ?_
          | refine AW_not rfl rfl ?_
          | refine AW_build rfl tb_num rfl ?_
          | refine AW_build rfl tb_row rfl ?_
          | refine AW_build rfl tb_rows rfl ?_
          | refine AW_call rfl rfl (by first | exact ct_gsize _ (by assumption) | exact ct_limbOf 1 (by decide) (by decide) | exact ct_gzero _ | exact ct_Mul0 _ _ (by omega) (by omega) (by omega) | exact ct_Sub0 _ _ (by omega) (by assumption) (by assumption) | exact ct_TruncN _ _ (by assumption) (by assumption) (by assumption)) ?_
          | refine AW_ints rfl tu_nums ti_num ti_size ti_zero rfl rfl rfl (by first | exact .cons _ _ _ _ _ rfl (.cons _ _ _ _ _ rfl (.nil _)) | exact .cons _ _ _ _ _ rfl (.cons _ _ _ _ _ rfl (.cons _ _ _ _ _ rfl (.cons _ _ _ _ _ rfl (.nil _)))) | exact .cons _ _ _ _ _ rfl (.cons _ _ _ _ _ rfl (.cons _ _ _ _ _ rfl (.nil _))) | exact .cons _ _ _ _ _ rfl (.cons _ _ _ _ _ rfl (.cons _ _ _ _ _ rfl (.cons _ _ _ _ _ rfl (.cons _ _ _ _ _ rfl (.nil _)))))) ?_
          | refine AW_fieldAddr rfl tf_row0 rfl rfl ?_ | refine AW_fieldAddr rfl tf_row1 rfl rfl ?_ | refine AW_arrayAt rfl Tryz.underlying116 ts_row rfl rfl rfl rfl ?_ | refine AW_arrayAt rfl Tryz.underlying75 ts_num rfl rfl rfl rfl ?_
          | refine AW_pickT rfl rfl rfl ?_
          | refine AW_pickF rfl rfl rfl ?_
          | refine AW_skip rfl rfl rfl rfl ?_
          | refine AW_pickTg rfl rfl rfl rfl rfl rfl ?_
          | refine AW_pickFg rfl rfl rfl rfl rfl rfl ?_
          | refine AW_moveg rfl rfl rfl rfl rfl ?_
          | refine AW_notg rfl rfl rfl rfl rfl ?_
          | refine AW_eqg rfl rfl rfl rfl rfl rfl ?_
          | refine AW_eq rfl rfl rfl ?_
          | refine AW_loadg rfl rfl rfl rfl ty_num rfl rfl rfl rfl ?_
          | refine AW_loadg rfl rfl rfl rfl ty_row rfl rfl rfl rfl ?_
          | refine AW_loadg rfl rfl rfl rfl ty_rows rfl rfl rfl rfl ?_
          | refine AW_callg rfl rfl rfl rfl rfl (by first | exact ct_gsize _ (by assumption) | exact ct_limbOf 1 (by decide) (by decide) | exact ct_gzero _ | exact ct_Mul0 _ _ (by omega) (by omega) (by omega) | exact ct_Sub0 _ _ (by omega) (by assumption) (by assumption) | exact ct_TruncN _ _ (by assumption) (by assumption) (by assumption)) ?_
          | refine AW_nil (fun (h : false = true) => by cases h) ?_
          | refine AW_nil (fun (_ : true = true) => by kernel_rfl) ?_
          | refine Wp_block ?_
          | refine Wp_skip ?_
          | refine Wp_exit ?_
          | refine Wp_ret ?_
        exact ⟨(1, (false, []), (false, [])), ⟨by omega, fun _ => rawOf_zero.symm, by omega, by omega, fun _ => rfl⟩, le_of ⟨rfl, rfl, rfl, rfl, rfl, rfl, rfl, trivial⟩ ⟨rfl, rfl, rfl, rfl, trivial⟩ rfl, by omega⟩
    · obtain rfl := hu1 (by omega)
      obtain rfl := hv1 (by omega)
      have hx : ny = if whole = true then y0 - ((n0 / n1 : Nat) : Int) * y1 else 0 := hny.symm
      repeat first
        | refine Wp_seq ?_
        | refine Wp_region tm_mixed ?_
        | refine AW_move rfl rfl ?_
        | refine AW_assign rfl rfl ?_
        | refine AW_load rfl ty_num rfl rfl rfl rfl ?_
        | refine AW_load rfl ty_row rfl rfl rfl rfl ?_
        | refine AW_load rfl ty_rows rfl rfl rfl rfl ?_
        | refine AW_store ty_num rfl rfl rfl rfl rfl rfl rfl ?_
        | refine AW_store ty_row rfl rfl rfl rfl rfl rfl rfl ?_
        | refine AW_store ty_rows rfl rfl rfl rfl rfl rfl rfl ?_
        | refine AW_extract rfl rfl rfl ?_
        | refine AW_alloc rfl tz_num ?_
        | refine AW_alloc rfl tz_row ?_
        | refine AW_alloc rfl tz_rows ?_
        | refine AW_box rfl rfl (row := true) rfl (fun h => by cases h) rfl ?_
        | refine AW_not rfl rfl ?_
        | refine AW_build rfl tb_num rfl ?_
        | refine AW_build rfl tb_row rfl ?_
        | refine AW_build rfl tb_rows rfl ?_
        | refine AW_call rfl rfl (by first | exact ct_gsize _ (by assumption) | exact ct_limbOf 1 (by decide) (by decide) | exact ct_gzero _ | exact ct_Mul0 _ _ (by omega) (by omega) (by omega) | exact ct_Sub0 _ _ (by omega) (by assumption) (by assumption) | exact ct_TruncN _ _ (by assumption) (by assumption) (by assumption)) ?_
        | refine AW_ints rfl tu_nums ti_num ti_size ti_zero rfl rfl rfl (by first | exact .cons _ _ _ _ _ rfl (.cons _ _ _ _ _ rfl (.nil _)) | exact .cons _ _ _ _ _ rfl (.cons _ _ _ _ _ rfl (.cons _ _ _ _ _ rfl (.cons _ _ _ _ _ rfl (.nil _)))) | exact .cons _ _ _ _ _ rfl (.cons _ _ _ _ _ rfl (.cons _ _ _ _ _ rfl (.nil _))) | exact .cons _ _ _ _ _ rfl (.cons _ _ _ _ _ rfl (.cons _ _ _ _ _ rfl (.cons _ _ _ _ _ rfl (.cons _ _ _ _ _ rfl (.nil _)))))) ?_
        | refine AW_fieldAddr rfl tf_row0 rfl rfl ?_ | refine AW_fieldAddr rfl tf_row1 rfl rfl ?_ | refine AW_arrayAt rfl Tryz.underlying116 ts_row rfl rfl rfl rfl ?_ | refine AW_arrayAt rfl Tryz.underlying75 ts_num rfl rfl rfl rfl ?_
        | refine AW_pickT rfl rfl rfl ?_
        | refine AW_pickF rfl rfl rfl ?_
        | refine AW_skip rfl rfl rfl rfl ?_
        | refine AW_pickTg rfl rfl rfl rfl rfl rfl ?_
        | refine AW_pickFg rfl rfl rfl rfl rfl rfl ?_
        | refine AW_moveg rfl rfl rfl rfl rfl ?_
        | refine AW_notg rfl rfl rfl rfl rfl ?_
        | refine AW_eqg rfl rfl rfl rfl rfl rfl ?_
        | refine AW_eq rfl rfl rfl ?_
        | refine AW_loadg rfl rfl rfl rfl ty_num rfl rfl rfl rfl ?_
        | refine AW_loadg rfl rfl rfl rfl ty_row rfl rfl rfl rfl ?_
        | refine AW_loadg rfl rfl rfl rfl ty_rows rfl rfl rfl rfl ?_
        | refine AW_callg rfl rfl rfl rfl rfl (by first | exact ct_gsize _ (by assumption) | exact ct_limbOf 1 (by decide) (by decide) | exact ct_gzero _ | exact ct_Mul0 _ _ (by omega) (by omega) (by omega) | exact ct_Sub0 _ _ (by omega) (by assumption) (by assumption) | exact ct_TruncN _ _ (by assumption) (by assumption) (by assumption)) ?_
        | refine AW_nil (fun (h : false = true) => by cases h) ?_
        | refine AW_nil (fun (_ : true = true) => by kernel_rfl) ?_
        | refine Wp_block ?_
        | refine Wp_skip ?_
        | refine Wp_exit ?_
        | refine Wp_ret ?_
      refine AW_quiet rfl (q_lt rfl rfl) ?_
      repeat first
        | refine Wp_seq ?_
        | refine Wp_region tm_mixed ?_
        | refine AW_move rfl rfl ?_
        | refine AW_assign rfl rfl ?_
        | refine AW_load rfl ty_num rfl rfl rfl rfl ?_
        | refine AW_load rfl ty_row rfl rfl rfl rfl ?_
        | refine AW_load rfl ty_rows rfl rfl rfl rfl ?_
        | refine AW_store ty_num rfl rfl rfl rfl rfl rfl rfl ?_
        | refine AW_store ty_row rfl rfl rfl rfl rfl rfl rfl ?_
        | refine AW_store ty_rows rfl rfl rfl rfl rfl rfl rfl ?_
        | refine AW_extract rfl rfl rfl ?_
        | refine AW_alloc rfl tz_num ?_
        | refine AW_alloc rfl tz_row ?_
        | refine AW_alloc rfl tz_rows ?_
        | refine AW_box rfl rfl (row := true) rfl (fun h => by cases h) rfl ?_
        | refine AW_not rfl rfl ?_
        | refine AW_build rfl tb_num rfl ?_
        | refine AW_build rfl tb_row rfl ?_
        | refine AW_build rfl tb_rows rfl ?_
        | refine AW_call rfl rfl (by first | exact ct_gsize _ (by assumption) | exact ct_limbOf 1 (by decide) (by decide) | exact ct_gzero _ | exact ct_Mul0 _ _ (by omega) (by omega) (by omega) | exact ct_Sub0 _ _ (by omega) (by assumption) (by assumption) | exact ct_TruncN _ _ (by assumption) (by assumption) (by assumption)) ?_
        | refine AW_ints rfl tu_nums ti_num ti_size ti_zero rfl rfl rfl (by first | exact .cons _ _ _ _ _ rfl (.cons _ _ _ _ _ rfl (.nil _)) | exact .cons _ _ _ _ _ rfl (.cons _ _ _ _ _ rfl (.cons _ _ _ _ _ rfl (.cons _ _ _ _ _ rfl (.nil _)))) | exact .cons _ _ _ _ _ rfl (.cons _ _ _ _ _ rfl (.cons _ _ _ _ _ rfl (.nil _))) | exact .cons _ _ _ _ _ rfl (.cons _ _ _ _ _ rfl (.cons _ _ _ _ _ rfl (.cons _ _ _ _ _ rfl (.cons _ _ _ _ _ rfl (.nil _)))))) ?_
        | refine AW_fieldAddr rfl tf_row0 rfl rfl ?_ | refine AW_fieldAddr rfl tf_row1 rfl rfl ?_ | refine AW_arrayAt rfl Tryz.underlying116 ts_row rfl rfl rfl rfl ?_ | refine AW_arrayAt rfl Tryz.underlying75 ts_num rfl rfl rfl rfl ?_
        | refine AW_pickT rfl rfl rfl ?_
        | refine AW_pickF rfl rfl rfl ?_
        | refine AW_skip rfl rfl rfl rfl ?_
        | refine AW_pickTg rfl rfl rfl rfl rfl rfl ?_
        | refine AW_pickFg rfl rfl rfl rfl rfl rfl ?_
        | refine AW_moveg rfl rfl rfl rfl rfl ?_
        | refine AW_notg rfl rfl rfl rfl rfl ?_
        | refine AW_eqg rfl rfl rfl rfl rfl rfl ?_
        | refine AW_eq rfl rfl rfl ?_
        | refine AW_loadg rfl rfl rfl rfl ty_num rfl rfl rfl rfl ?_
        | refine AW_loadg rfl rfl rfl rfl ty_row rfl rfl rfl rfl ?_
        | refine AW_loadg rfl rfl rfl rfl ty_rows rfl rfl rfl rfl ?_
        | refine AW_callg rfl rfl rfl rfl rfl (by first | exact ct_gsize _ (by assumption) | exact ct_limbOf 1 (by decide) (by decide) | exact ct_gzero _ | exact ct_Mul0 _ _ (by omega) (by omega) (by omega) | exact ct_Sub0 _ _ (by omega) (by assumption) (by assumption) | exact ct_TruncN _ _ (by assumption) (by assumption) (by assumption)) ?_
        | refine AW_nil (fun (h : false = true) => by cases h) ?_
        | refine AW_nil (fun (_ : true = true) => by kernel_rfl) ?_
        | refine Wp_block ?_
        | refine Wp_skip ?_
        | refine Wp_exit ?_
        | refine Wp_ret ?_
      refine Wp_condT rfl ?_
      repeat first
        | refine Wp_seq ?_
        | refine Wp_region tm_mixed ?_
        | refine AW_move rfl rfl ?_
        | refine AW_assign rfl rfl ?_
        | refine AW_load rfl ty_num rfl rfl rfl rfl ?_
        | refine AW_load rfl ty_row rfl rfl rfl rfl ?_
        | refine AW_load rfl ty_rows rfl rfl rfl rfl ?_
        | refine AW_store ty_num rfl rfl rfl rfl rfl rfl rfl ?_
        | refine AW_store ty_row rfl rfl rfl rfl rfl rfl rfl ?_
        | refine AW_store ty_rows rfl rfl rfl rfl rfl rfl rfl ?_
        | refine AW_extract rfl rfl rfl ?_
        | refine AW_alloc rfl tz_num ?_
        | refine AW_alloc rfl tz_row ?_
        | refine AW_alloc rfl tz_rows ?_
        | refine AW_box rfl rfl (row := true) rfl (fun h => by cases h) rfl ?_
        | refine AW_not rfl rfl ?_
        | refine AW_build rfl tb_num rfl ?_
        | refine AW_build rfl tb_row rfl ?_
        | refine AW_build rfl tb_rows rfl ?_
        | refine AW_call rfl rfl (by first | exact ct_gsize _ (by assumption) | exact ct_limbOf 1 (by decide) (by decide) | exact ct_gzero _ | exact ct_Mul0 _ _ (by omega) (by omega) (by omega) | exact ct_Sub0 _ _ (by omega) (by assumption) (by assumption) | exact ct_TruncN _ _ (by assumption) (by assumption) (by assumption)) ?_
        | refine AW_ints rfl tu_nums ti_num ti_size ti_zero rfl rfl rfl (by first | exact .cons _ _ _ _ _ rfl (.cons _ _ _ _ _ rfl (.nil _)) | exact .cons _ _ _ _ _ rfl (.cons _ _ _ _ _ rfl (.cons _ _ _ _ _ rfl (.cons _ _ _ _ _ rfl (.nil _)))) | exact .cons _ _ _ _ _ rfl (.cons _ _ _ _ _ rfl (.cons _ _ _ _ _ rfl (.nil _))) | exact .cons _ _ _ _ _ rfl (.cons _ _ _ _ _ rfl (.cons _ _ _ _ _ rfl (.cons _ _ _ _ _ rfl (.cons _ _ _ _ _ rfl (.nil _)))))) ?_
        | refine AW_fieldAddr rfl tf_row0 rfl rfl ?_ | refine AW_fieldAddr rfl tf_row1 rfl rfl ?_ | refine AW_arrayAt rfl Tryz.underlying116 ts_row rfl rfl rfl rfl ?_ | refine AW_arrayAt rfl Tryz.underlying75 ts_num rfl rfl rfl rfl ?_
        | refine AW_pickT rfl rfl rfl ?_
        | refine AW_pickF rfl rfl rfl ?_
        | refine AW_skip rfl rfl rfl rfl ?_
        | refine AW_pickTg rfl rfl rfl rfl rfl rfl ?_
        | refine AW_pickFg rfl rfl rfl rfl rfl rfl ?_
        | refine AW_moveg rfl rfl rfl rfl rfl ?_
        | refine AW_notg rfl rfl rfl rfl rfl ?_
        | refine AW_eqg rfl rfl rfl rfl rfl rfl ?_
        | refine AW_eq rfl rfl rfl ?_
        | refine AW_loadg rfl rfl rfl rfl ty_num rfl rfl rfl rfl ?_
        | refine AW_loadg rfl rfl rfl rfl ty_row rfl rfl rfl rfl ?_
        | refine AW_loadg rfl rfl rfl rfl ty_rows rfl rfl rfl rfl ?_
        | refine AW_callg rfl rfl rfl rfl rfl (by first | exact ct_gsize _ (by assumption) | exact ct_limbOf 1 (by decide) (by decide) | exact ct_gzero _ | exact ct_Mul0 _ _ (by omega) (by omega) (by omega) | exact ct_Sub0 _ _ (by omega) (by assumption) (by assumption) | exact ct_TruncN _ _ (by assumption) (by assumption) (by assumption)) ?_
        | refine AW_nil (fun (h : false = true) => by cases h) ?_
        | refine AW_nil (fun (_ : true = true) => by kernel_rfl) ?_
        | refine Wp_block ?_
        | refine Wp_skip ?_
        | refine Wp_exit ?_
        | refine Wp_ret ?_
      refine Wp_cond rfl (fun hw => ?_) (fun hw => ?_)
      · subst hw
        rw [if_pos rfl] at hx
        have k2 : lc (y0 - ((n0 / n1 : Nat) : Int) * y1).natAbs ≤ 4096 := by rw [← hx]; exact Nat.le_trans t5 (by decide)
        repeat first
          | refine Wp_seq ?_
          | refine Wp_region tm_mixed ?_
          | refine AW_move rfl rfl ?_
          | refine AW_assign rfl rfl ?_
          | refine AW_load rfl ty_num rfl rfl rfl rfl ?_
          | refine AW_load rfl ty_row rfl rfl rfl rfl ?_
          | refine AW_load rfl ty_rows rfl rfl rfl rfl ?_
          | refine AW_store ty_num rfl rfl rfl rfl rfl rfl rfl ?_
          | refine AW_store ty_row rfl rfl rfl rfl rfl rfl rfl ?_
          | refine AW_store ty_rows rfl rfl rfl rfl rfl rfl rfl ?_
          | refine AW_extract rfl rfl rfl ?_
          | refine AW_alloc rfl tz_num ?_
          | refine AW_alloc rfl tz_row ?_
          | refine AW_alloc rfl tz_rows ?_
          | refine AW_box rfl rfl (row := true) rfl (fun h => by cases h) rfl ?_
          | refine AW_not rfl rfl ?_
          | refine AW_build rfl tb_num rfl ?_
          | refine AW_build rfl tb_row rfl ?_
          | refine AW_build rfl tb_rows rfl ?_
          | refine AW_call rfl rfl (by first | exact ct_gsize _ (by assumption) | exact ct_limbOf 1 (by decide) (by decide) | exact ct_gzero _ | exact ct_Mul0 _ _ (by omega) (by omega) (by omega) | exact ct_Sub0 _ _ (by omega) (by assumption) (by assumption) | exact ct_TruncN _ _ (by assumption) (by assumption) (by assumption)) ?_
          | refine AW_ints rfl tu_nums ti_num ti_size ti_zero rfl rfl rfl (by first | exact .cons _ _ _ _ _ rfl (.cons _ _ _ _ _ rfl (.nil _)) | exact .cons _ _ _ _ _ rfl (.cons _ _ _ _ _ rfl (.cons _ _ _ _ _ rfl (.cons _ _ _ _ _ rfl (.nil _)))) | exact .cons _ _ _ _ _ rfl (.cons _ _ _ _ _ rfl (.cons _ _ _ _ _ rfl (.nil _))) | exact .cons _ _ _ _ _ rfl (.cons _ _ _ _ _ rfl (.cons _ _ _ _ _ rfl (.cons _ _ _ _ _ rfl (.cons _ _ _ _ _ rfl (.nil _)))))) ?_
          | refine AW_fieldAddr rfl tf_row0 rfl rfl ?_ | refine AW_fieldAddr rfl tf_row1 rfl rfl ?_ | refine AW_arrayAt rfl Tryz.underlying116 ts_row rfl rfl rfl rfl ?_ | refine AW_arrayAt rfl Tryz.underlying75 ts_num rfl rfl rfl rfl ?_
          | refine AW_pickT rfl rfl rfl ?_
          | refine AW_pickF rfl rfl rfl ?_
          | refine AW_skip rfl rfl rfl rfl ?_
          | refine AW_pickTg rfl rfl rfl rfl rfl rfl ?_
          | refine AW_pickFg rfl rfl rfl rfl rfl rfl ?_
          | refine AW_moveg rfl rfl rfl rfl rfl ?_
          | refine AW_notg rfl rfl rfl rfl rfl ?_
          | refine AW_eqg rfl rfl rfl rfl rfl rfl ?_
          | refine AW_eq rfl rfl rfl ?_
          | refine AW_loadg rfl rfl rfl rfl ty_num rfl rfl rfl rfl ?_
          | refine AW_loadg rfl rfl rfl rfl ty_row rfl rfl rfl rfl ?_
          | refine AW_loadg rfl rfl rfl rfl ty_rows rfl rfl rfl rfl ?_
          | refine AW_callg rfl rfl rfl rfl rfl (by first | exact ct_gsize _ (by assumption) | exact ct_limbOf 1 (by decide) (by decide) | exact ct_gzero _ | exact ct_Mul0 _ _ (by omega) (by omega) (by omega) | exact ct_Sub0 _ _ (by omega) (by assumption) (by assumption) | exact ct_TruncN _ _ (by assumption) (by assumption) (by assumption)) ?_
          | refine AW_nil (fun (h : false = true) => by cases h) ?_
          | refine AW_nil (fun (_ : true = true) => by kernel_rfl) ?_
          | refine Wp_block ?_
          | refine Wp_skip ?_
          | refine Wp_exit ?_
          | refine Wp_ret ?_
        refine AW_quiet rfl (q_add rfl rfl) ?_
        repeat first
          | refine Wp_seq ?_
          | refine Wp_region tm_mixed ?_
          | refine AW_move rfl rfl ?_
          | refine AW_assign rfl rfl ?_
          | refine AW_load rfl ty_num rfl rfl rfl rfl ?_
          | refine AW_load rfl ty_row rfl rfl rfl rfl ?_
          | refine AW_load rfl ty_rows rfl rfl rfl rfl ?_
          | refine AW_store ty_num rfl rfl rfl rfl rfl rfl rfl ?_
          | refine AW_store ty_row rfl rfl rfl rfl rfl rfl rfl ?_
          | refine AW_store ty_rows rfl rfl rfl rfl rfl rfl rfl ?_
          | refine AW_extract rfl rfl rfl ?_
          | refine AW_alloc rfl tz_num ?_
          | refine AW_alloc rfl tz_row ?_
          | refine AW_alloc rfl tz_rows ?_
          | refine AW_box rfl rfl (row := true) rfl (fun h => by cases h) rfl ?_
          | refine AW_not rfl rfl ?_
          | refine AW_build rfl tb_num rfl ?_
          | refine AW_build rfl tb_row rfl ?_
          | refine AW_build rfl tb_rows rfl ?_
          | refine AW_call rfl rfl (by first | exact ct_gsize _ (by assumption) | exact ct_limbOf 1 (by decide) (by decide) | exact ct_gzero _ | exact ct_Mul0 _ _ (by omega) (by omega) (by omega) | exact ct_Sub0 _ _ (by omega) (by assumption) (by assumption) | exact ct_TruncN _ _ (by assumption) (by assumption) (by assumption)) ?_
          | refine AW_ints rfl tu_nums ti_num ti_size ti_zero rfl rfl rfl (by first | exact .cons _ _ _ _ _ rfl (.cons _ _ _ _ _ rfl (.nil _)) | exact .cons _ _ _ _ _ rfl (.cons _ _ _ _ _ rfl (.cons _ _ _ _ _ rfl (.cons _ _ _ _ _ rfl (.nil _)))) | exact .cons _ _ _ _ _ rfl (.cons _ _ _ _ _ rfl (.cons _ _ _ _ _ rfl (.nil _))) | exact .cons _ _ _ _ _ rfl (.cons _ _ _ _ _ rfl (.cons _ _ _ _ _ rfl (.cons _ _ _ _ _ rfl (.cons _ _ _ _ _ rfl (.nil _)))))) ?_
          | refine AW_fieldAddr rfl tf_row0 rfl rfl ?_ | refine AW_fieldAddr rfl tf_row1 rfl rfl ?_ | refine AW_arrayAt rfl Tryz.underlying116 ts_row rfl rfl rfl rfl ?_ | refine AW_arrayAt rfl Tryz.underlying75 ts_num rfl rfl rfl rfl ?_
          | refine AW_pickT rfl rfl rfl ?_
          | refine AW_pickF rfl rfl rfl ?_
          | refine AW_skip rfl rfl rfl rfl ?_
          | refine AW_pickTg rfl rfl rfl rfl rfl rfl ?_
          | refine AW_pickFg rfl rfl rfl rfl rfl rfl ?_
          | refine AW_moveg rfl rfl rfl rfl rfl ?_
          | refine AW_notg rfl rfl rfl rfl rfl ?_
          | refine AW_eqg rfl rfl rfl rfl rfl rfl ?_
          | refine AW_eq rfl rfl rfl ?_
          | refine AW_loadg rfl rfl rfl rfl ty_num rfl rfl rfl rfl ?_
          | refine AW_loadg rfl rfl rfl rfl ty_row rfl rfl rfl rfl ?_
          | refine AW_loadg rfl rfl rfl rfl ty_rows rfl rfl rfl rfl ?_
          | refine AW_callg rfl rfl rfl rfl rfl (by first | exact ct_gsize _ (by assumption) | exact ct_limbOf 1 (by decide) (by decide) | exact ct_gzero _ | exact ct_Mul0 _ _ (by omega) (by omega) (by omega) | exact ct_Sub0 _ _ (by omega) (by assumption) (by assumption) | exact ct_TruncN _ _ (by assumption) (by assumption) (by assumption)) ?_
          | refine AW_nil (fun (h : false = true) => by cases h) ?_
          | refine AW_nil (fun (_ : true = true) => by kernel_rfl) ?_
          | refine Wp_block ?_
          | refine Wp_skip ?_
          | refine Wp_exit ?_
          | refine Wp_ret ?_
        exact ⟨(2, rawOf nx, rawOf ny), ⟨by omega, fun _ => rfl, fun _ => rfl, by omega, by omega⟩, le_of ⟨rfl, rfl, rfl, rfl, rfl, rfl, rfl, trivial⟩ ⟨by rw [hx]; rfl, rfl, rfl, rfl, trivial⟩ rfl, by omega⟩
      · subst hw
        rw [if_neg (by decide)] at hx
        subst hx
        repeat first
          | refine Wp_seq ?_
          | refine Wp_region tm_mixed ?_
          | refine AW_move rfl rfl ?_
          | refine AW_assign rfl rfl ?_
          | refine AW_load rfl ty_num rfl rfl rfl rfl ?_
          | refine AW_load rfl ty_row rfl rfl rfl rfl ?_
          | refine AW_load rfl ty_rows rfl rfl rfl rfl ?_
          | refine AW_store ty_num rfl rfl rfl rfl rfl rfl rfl ?_
          | refine AW_store ty_row rfl rfl rfl rfl rfl rfl rfl ?_
          | refine AW_store ty_rows rfl rfl rfl rfl rfl rfl rfl ?_
          | refine AW_extract rfl rfl rfl ?_
          | refine AW_alloc rfl tz_num ?_
          | refine AW_alloc rfl tz_row ?_
          | refine AW_alloc rfl tz_rows ?_
          | refine AW_box rfl rfl (row := true) rfl (fun h => by cases h) rfl ?_
          | refine AW_not rfl rfl ?_
          | refine AW_build rfl tb_num rfl ?_
          | refine AW_build rfl tb_row rfl ?_
          | refine AW_build rfl tb_rows rfl ?_
          | refine AW_call rfl rfl (by first | exact ct_gsize _ (by assumption) | exact ct_limbOf 1 (by decide) (by decide) | exact ct_gzero _ | exact ct_Mul0 _ _ (by omega) (by omega) (by omega) | exact ct_Sub0 _ _ (by omega) (by assumption) (by assumption) | exact ct_TruncN _ _ (by assumption) (by assumption) (by assumption)) ?_
          | refine AW_ints rfl tu_nums ti_num ti_size ti_zero rfl rfl rfl (by first | exact .cons _ _ _ _ _ rfl (.cons _ _ _ _ _ rfl (.nil _)) | exact .cons _ _ _ _ _ rfl (.cons _ _ _ _ _ rfl (.cons _ _ _ _ _ rfl (.cons _ _ _ _ _ rfl (.nil _)))) | exact .cons _ _ _ _ _ rfl (.cons _ _ _ _ _ rfl (.cons _ _ _ _ _ rfl (.nil _))) | exact .cons _ _ _ _ _ rfl (.cons _ _ _ _ _ rfl (.cons _ _ _ _ _ rfl (.cons _ _ _ _ _ rfl (.cons _ _ _ _ _ rfl (.nil _)))))) ?_
          | refine AW_fieldAddr rfl tf_row0 rfl rfl ?_ | refine AW_fieldAddr rfl tf_row1 rfl rfl ?_ | refine AW_arrayAt rfl Tryz.underlying116 ts_row rfl rfl rfl rfl ?_ | refine AW_arrayAt rfl Tryz.underlying75 ts_num rfl rfl rfl rfl ?_
          | refine AW_pickT rfl rfl rfl ?_
          | refine AW_pickF rfl rfl rfl ?_
          | refine AW_skip rfl rfl rfl rfl ?_
          | refine AW_pickTg rfl rfl rfl rfl rfl rfl ?_
          | refine AW_pickFg rfl rfl rfl rfl rfl rfl ?_
          | refine AW_moveg rfl rfl rfl rfl rfl ?_
          | refine AW_notg rfl rfl rfl rfl rfl ?_
          | refine AW_eqg rfl rfl rfl rfl rfl rfl ?_
          | refine AW_eq rfl rfl rfl ?_
          | refine AW_loadg rfl rfl rfl rfl ty_num rfl rfl rfl rfl ?_
          | refine AW_loadg rfl rfl rfl rfl ty_row rfl rfl rfl rfl ?_
          | refine AW_loadg rfl rfl rfl rfl ty_rows rfl rfl rfl rfl ?_
          | refine AW_callg rfl rfl rfl rfl rfl (by first | exact ct_gsize _ (by assumption) | exact ct_limbOf 1 (by decide) (by decide) | exact ct_gzero _ | exact ct_Mul0 _ _ (by omega) (by omega) (by omega) | exact ct_Sub0 _ _ (by omega) (by assumption) (by assumption) | exact ct_TruncN _ _ (by assumption) (by assumption) (by assumption)) ?_
          | refine AW_nil (fun (h : false = true) => by cases h) ?_
          | refine AW_nil (fun (_ : true = true) => by kernel_rfl) ?_
          | refine Wp_block ?_
          | refine Wp_skip ?_
          | refine Wp_exit ?_
          | refine Wp_ret ?_
        refine AW_quiet rfl (q_add rfl rfl) ?_
        repeat first
          | refine Wp_seq ?_
          | refine Wp_region tm_mixed ?_
          | refine AW_move rfl rfl ?_
          | refine AW_assign rfl rfl ?_
          | refine AW_load rfl ty_num rfl rfl rfl rfl ?_
          | refine AW_load rfl ty_row rfl rfl rfl rfl ?_
          | refine AW_load rfl ty_rows rfl rfl rfl rfl ?_
          | refine AW_store ty_num rfl rfl rfl rfl rfl rfl rfl ?_
          | refine AW_store ty_row rfl rfl rfl rfl rfl rfl rfl ?_
          | refine AW_store ty_rows rfl rfl rfl rfl rfl rfl rfl ?_
          | refine AW_extract rfl rfl rfl ?_
          | refine AW_alloc rfl tz_num ?_
          | refine AW_alloc rfl tz_row ?_
          | refine AW_alloc rfl tz_rows ?_
          | refine AW_box rfl rfl (row := true) rfl (fun h => by cases h) rfl ?_
          | refine AW_not rfl rfl ?_
          | refine AW_build rfl tb_num rfl ?_
          | refine AW_build rfl tb_row rfl ?_
          | refine AW_build rfl tb_rows rfl ?_
          | refine AW_call rfl rfl (by first | exact ct_gsize _ (by assumption) | exact ct_limbOf 1 (by decide) (by decide) | exact ct_gzero _ | exact ct_Mul0 _ _ (by omega) (by omega) (by omega) | exact ct_Sub0 _ _ (by omega) (by assumption) (by assumption) | exact ct_TruncN _ _ (by assumption) (by assumption) (by assumption)) ?_
          | refine AW_ints rfl tu_nums ti_num ti_size ti_zero rfl rfl rfl (by first | exact .cons _ _ _ _ _ rfl (.cons _ _ _ _ _ rfl (.nil _)) | exact .cons _ _ _ _ _ rfl (.cons _ _ _ _ _ rfl (.cons _ _ _ _ _ rfl (.cons _ _ _ _ _ rfl (.nil _)))) | exact .cons _ _ _ _ _ rfl (.cons _ _ _ _ _ rfl (.cons _ _ _ _ _ rfl (.nil _))) | exact .cons _ _ _ _ _ rfl (.cons _ _ _ _ _ rfl (.cons _ _ _ _ _ rfl (.cons _ _ _ _ _ rfl (.cons _ _ _ _ _ rfl (.nil _)))))) ?_
          | refine AW_fieldAddr rfl tf_row0 rfl rfl ?_ | refine AW_fieldAddr rfl tf_row1 rfl rfl ?_ | refine AW_arrayAt rfl Tryz.underlying116 ts_row rfl rfl rfl rfl ?_ | refine AW_arrayAt rfl Tryz.underlying75 ts_num rfl rfl rfl rfl ?_
          | refine AW_pickT rfl rfl rfl ?_
          | refine AW_pickF rfl rfl rfl ?_
          | refine AW_skip rfl rfl rfl rfl ?_
          | refine AW_pickTg rfl rfl rfl rfl rfl rfl ?_
          | refine AW_pickFg rfl rfl rfl rfl rfl rfl ?_
          | refine AW_moveg rfl rfl rfl rfl rfl ?_
          | refine AW_notg rfl rfl rfl rfl rfl ?_
          | refine AW_eqg rfl rfl rfl rfl rfl rfl ?_
          | refine AW_eq rfl rfl rfl ?_
          | refine AW_loadg rfl rfl rfl rfl ty_num rfl rfl rfl rfl ?_
          | refine AW_loadg rfl rfl rfl rfl ty_row rfl rfl rfl rfl ?_
          | refine AW_loadg rfl rfl rfl rfl ty_rows rfl rfl rfl rfl ?_
          | refine AW_callg rfl rfl rfl rfl rfl (by first | exact ct_gsize _ (by assumption) | exact ct_limbOf 1 (by decide) (by decide) | exact ct_gzero _ | exact ct_Mul0 _ _ (by omega) (by omega) (by omega) | exact ct_Sub0 _ _ (by omega) (by assumption) (by assumption) | exact ct_TruncN _ _ (by assumption) (by assumption) (by assumption)) ?_
          | refine AW_nil (fun (h : false = true) => by cases h) ?_
          | refine AW_nil (fun (_ : true = true) => by kernel_rfl) ?_
          | refine Wp_block ?_
          | refine Wp_skip ?_
          | refine Wp_exit ?_
          | refine Wp_ret ?_
        exact ⟨(2, rawOf nx, (false, [])), ⟨by omega, fun _ => rfl, fun _ => rawOf_zero.symm, by omega, by omega⟩, le_of ⟨rfl, rfl, rfl, rfl, rfl, rfl, rfl, trivial⟩ ⟨rfl, rfl, rfl, rfl, trivial⟩ rfl, by omega⟩
    · obtain rfl := hu1 (by omega)
      obtain rfl := hv2 (by omega)
      repeat first
        | refine Wp_seq ?_
        | refine Wp_region tm_mixed ?_
        | refine AW_move rfl rfl ?_
        | refine AW_assign rfl rfl ?_
        | refine AW_load rfl ty_num rfl rfl rfl rfl ?_
        | refine AW_load rfl ty_row rfl rfl rfl rfl ?_
        | refine AW_load rfl ty_rows rfl rfl rfl rfl ?_
        | refine AW_store ty_num rfl rfl rfl rfl rfl rfl rfl ?_
        | refine AW_store ty_row rfl rfl rfl rfl rfl rfl rfl ?_
        | refine AW_store ty_rows rfl rfl rfl rfl rfl rfl rfl ?_
        | refine AW_extract rfl rfl rfl ?_
        | refine AW_alloc rfl tz_num ?_
        | refine AW_alloc rfl tz_row ?_
        | refine AW_alloc rfl tz_rows ?_
        | refine AW_box rfl rfl (row := true) rfl (fun h => by cases h) rfl ?_
        | refine AW_not rfl rfl ?_
        | refine AW_build rfl tb_num rfl ?_
        | refine AW_build rfl tb_row rfl ?_
        | refine AW_build rfl tb_rows rfl ?_
        | refine AW_call rfl rfl (by first | exact ct_gsize _ (by assumption) | exact ct_limbOf 1 (by decide) (by decide) | exact ct_gzero _ | exact ct_Mul0 _ _ (by omega) (by omega) (by omega) | exact ct_Sub0 _ _ (by omega) (by assumption) (by assumption) | exact ct_TruncN _ _ (by assumption) (by assumption) (by assumption)) ?_
        | refine AW_ints rfl tu_nums ti_num ti_size ti_zero rfl rfl rfl (by first | exact .cons _ _ _ _ _ rfl (.cons _ _ _ _ _ rfl (.nil _)) | exact .cons _ _ _ _ _ rfl (.cons _ _ _ _ _ rfl (.cons _ _ _ _ _ rfl (.cons _ _ _ _ _ rfl (.nil _)))) | exact .cons _ _ _ _ _ rfl (.cons _ _ _ _ _ rfl (.cons _ _ _ _ _ rfl (.nil _))) | exact .cons _ _ _ _ _ rfl (.cons _ _ _ _ _ rfl (.cons _ _ _ _ _ rfl (.cons _ _ _ _ _ rfl (.cons _ _ _ _ _ rfl (.nil _)))))) ?_
        | refine AW_fieldAddr rfl tf_row0 rfl rfl ?_ | refine AW_fieldAddr rfl tf_row1 rfl rfl ?_ | refine AW_arrayAt rfl Tryz.underlying116 ts_row rfl rfl rfl rfl ?_ | refine AW_arrayAt rfl Tryz.underlying75 ts_num rfl rfl rfl rfl ?_
        | refine AW_pickT rfl rfl rfl ?_
        | refine AW_pickF rfl rfl rfl ?_
        | refine AW_skip rfl rfl rfl rfl ?_
        | refine AW_pickTg rfl rfl rfl rfl rfl rfl ?_
        | refine AW_pickFg rfl rfl rfl rfl rfl rfl ?_
        | refine AW_moveg rfl rfl rfl rfl rfl ?_
        | refine AW_notg rfl rfl rfl rfl rfl ?_
        | refine AW_eqg rfl rfl rfl rfl rfl rfl ?_
        | refine AW_eq rfl rfl rfl ?_
        | refine AW_loadg rfl rfl rfl rfl ty_num rfl rfl rfl rfl ?_
        | refine AW_loadg rfl rfl rfl rfl ty_row rfl rfl rfl rfl ?_
        | refine AW_loadg rfl rfl rfl rfl ty_rows rfl rfl rfl rfl ?_
        | refine AW_callg rfl rfl rfl rfl rfl (by first | exact ct_gsize _ (by assumption) | exact ct_limbOf 1 (by decide) (by decide) | exact ct_gzero _ | exact ct_Mul0 _ _ (by omega) (by omega) (by omega) | exact ct_Sub0 _ _ (by omega) (by assumption) (by assumption) | exact ct_TruncN _ _ (by assumption) (by assumption) (by assumption)) ?_
        | refine AW_nil (fun (h : false = true) => by cases h) ?_
        | refine AW_nil (fun (_ : true = true) => by kernel_rfl) ?_
        | refine Wp_block ?_
        | refine Wp_skip ?_
        | refine Wp_exit ?_
        | refine Wp_ret ?_
      refine AW_quiet rfl (q_lt rfl rfl) ?_
      repeat first
        | refine Wp_seq ?_
        | refine Wp_region tm_mixed ?_
        | refine AW_move rfl rfl ?_
        | refine AW_assign rfl rfl ?_
        | refine AW_load rfl ty_num rfl rfl rfl rfl ?_
        | refine AW_load rfl ty_row rfl rfl rfl rfl ?_
        | refine AW_load rfl ty_rows rfl rfl rfl rfl ?_
        | refine AW_store ty_num rfl rfl rfl rfl rfl rfl rfl ?_
        | refine AW_store ty_row rfl rfl rfl rfl rfl rfl rfl ?_
        | refine AW_store ty_rows rfl rfl rfl rfl rfl rfl rfl ?_
        | refine AW_extract rfl rfl rfl ?_
        | refine AW_alloc rfl tz_num ?_
        | refine AW_alloc rfl tz_row ?_
        | refine AW_alloc rfl tz_rows ?_
        | refine AW_box rfl rfl (row := true) rfl (fun h => by cases h) rfl ?_
        | refine AW_not rfl rfl ?_
        | refine AW_build rfl tb_num rfl ?_
        | refine AW_build rfl tb_row rfl ?_
        | refine AW_build rfl tb_rows rfl ?_
        | refine AW_call rfl rfl (by first | exact ct_gsize _ (by assumption) | exact ct_limbOf 1 (by decide) (by decide) | exact ct_gzero _ | exact ct_Mul0 _ _ (by omega) (by omega) (by omega) | exact ct_Sub0 _ _ (by omega) (by assumption) (by assumption) | exact ct_TruncN _ _ (by assumption) (by assumption) (by assumption)) ?_
        | refine AW_ints rfl tu_nums ti_num ti_size ti_zero rfl rfl rfl (by first | exact .cons _ _ _ _ _ rfl (.cons _ _ _ _ _ rfl (.nil _)) | exact .cons _ _ _ _ _ rfl (.cons _ _ _ _ _ rfl (.cons _ _ _ _ _ rfl (.cons _ _ _ _ _ rfl (.nil _)))) | exact .cons _ _ _ _ _ rfl (.cons _ _ _ _ _ rfl (.cons _ _ _ _ _ rfl (.nil _))) | exact .cons _ _ _ _ _ rfl (.cons _ _ _ _ _ rfl (.cons _ _ _ _ _ rfl (.cons _ _ _ _ _ rfl (.cons _ _ _ _ _ rfl (.nil _)))))) ?_
        | refine AW_fieldAddr rfl tf_row0 rfl rfl ?_ | refine AW_fieldAddr rfl tf_row1 rfl rfl ?_ | refine AW_arrayAt rfl Tryz.underlying116 ts_row rfl rfl rfl rfl ?_ | refine AW_arrayAt rfl Tryz.underlying75 ts_num rfl rfl rfl rfl ?_
        | refine AW_pickT rfl rfl rfl ?_
        | refine AW_pickF rfl rfl rfl ?_
        | refine AW_skip rfl rfl rfl rfl ?_
        | refine AW_pickTg rfl rfl rfl rfl rfl rfl ?_
        | refine AW_pickFg rfl rfl rfl rfl rfl rfl ?_
        | refine AW_moveg rfl rfl rfl rfl rfl ?_
        | refine AW_notg rfl rfl rfl rfl rfl ?_
        | refine AW_eqg rfl rfl rfl rfl rfl rfl ?_
        | refine AW_eq rfl rfl rfl ?_
        | refine AW_loadg rfl rfl rfl rfl ty_num rfl rfl rfl rfl ?_
        | refine AW_loadg rfl rfl rfl rfl ty_row rfl rfl rfl rfl ?_
        | refine AW_loadg rfl rfl rfl rfl ty_rows rfl rfl rfl rfl ?_
        | refine AW_callg rfl rfl rfl rfl rfl (by first | exact ct_gsize _ (by assumption) | exact ct_limbOf 1 (by decide) (by decide) | exact ct_gzero _ | exact ct_Mul0 _ _ (by omega) (by omega) (by omega) | exact ct_Sub0 _ _ (by omega) (by assumption) (by assumption) | exact ct_TruncN _ _ (by assumption) (by assumption) (by assumption)) ?_
        | refine AW_nil (fun (h : false = true) => by cases h) ?_
        | refine AW_nil (fun (_ : true = true) => by kernel_rfl) ?_
        | refine Wp_block ?_
        | refine Wp_skip ?_
        | refine Wp_exit ?_
        | refine Wp_ret ?_
      refine Wp_condF rfl ?_
      repeat first
        | refine Wp_seq ?_
        | refine Wp_region tm_mixed ?_
        | refine AW_move rfl rfl ?_
        | refine AW_assign rfl rfl ?_
        | refine AW_load rfl ty_num rfl rfl rfl rfl ?_
        | refine AW_load rfl ty_row rfl rfl rfl rfl ?_
        | refine AW_load rfl ty_rows rfl rfl rfl rfl ?_
        | refine AW_store ty_num rfl rfl rfl rfl rfl rfl rfl ?_
        | refine AW_store ty_row rfl rfl rfl rfl rfl rfl rfl ?_
        | refine AW_store ty_rows rfl rfl rfl rfl rfl rfl rfl ?_
        | refine AW_extract rfl rfl rfl ?_
        | refine AW_alloc rfl tz_num ?_
        | refine AW_alloc rfl tz_row ?_
        | refine AW_alloc rfl tz_rows ?_
        | refine AW_box rfl rfl (row := true) rfl (fun h => by cases h) rfl ?_
        | refine AW_not rfl rfl ?_
        | refine AW_build rfl tb_num rfl ?_
        | refine AW_build rfl tb_row rfl ?_
        | refine AW_build rfl tb_rows rfl ?_
        | refine AW_call rfl rfl (by first | exact ct_gsize _ (by assumption) | exact ct_limbOf 1 (by decide) (by decide) | exact ct_gzero _ | exact ct_Mul0 _ _ (by omega) (by omega) (by omega) | exact ct_Sub0 _ _ (by omega) (by assumption) (by assumption) | exact ct_TruncN _ _ (by assumption) (by assumption) (by assumption)) ?_
        | refine AW_ints rfl tu_nums ti_num ti_size ti_zero rfl rfl rfl (by first | exact .cons _ _ _ _ _ rfl (.cons _ _ _ _ _ rfl (.nil _)) | exact .cons _ _ _ _ _ rfl (.cons _ _ _ _ _ rfl (.cons _ _ _ _ _ rfl (.cons _ _ _ _ _ rfl (.nil _)))) | exact .cons _ _ _ _ _ rfl (.cons _ _ _ _ _ rfl (.cons _ _ _ _ _ rfl (.nil _))) | exact .cons _ _ _ _ _ rfl (.cons _ _ _ _ _ rfl (.cons _ _ _ _ _ rfl (.cons _ _ _ _ _ rfl (.cons _ _ _ _ _ rfl (.nil _)))))) ?_
        | refine AW_fieldAddr rfl tf_row0 rfl rfl ?_ | refine AW_fieldAddr rfl tf_row1 rfl rfl ?_ | refine AW_arrayAt rfl Tryz.underlying116 ts_row rfl rfl rfl rfl ?_ | refine AW_arrayAt rfl Tryz.underlying75 ts_num rfl rfl rfl rfl ?_
        | refine AW_pickT rfl rfl rfl ?_
        | refine AW_pickF rfl rfl rfl ?_
        | refine AW_skip rfl rfl rfl rfl ?_
        | refine AW_pickTg rfl rfl rfl rfl rfl rfl ?_
        | refine AW_pickFg rfl rfl rfl rfl rfl rfl ?_
        | refine AW_moveg rfl rfl rfl rfl rfl ?_
        | refine AW_notg rfl rfl rfl rfl rfl ?_
        | refine AW_eqg rfl rfl rfl rfl rfl rfl ?_
        | refine AW_eq rfl rfl rfl ?_
        | refine AW_loadg rfl rfl rfl rfl ty_num rfl rfl rfl rfl ?_
        | refine AW_loadg rfl rfl rfl rfl ty_row rfl rfl rfl rfl ?_
        | refine AW_loadg rfl rfl rfl rfl ty_rows rfl rfl rfl rfl ?_
        | refine AW_callg rfl rfl rfl rfl rfl (by first | exact ct_gsize _ (by assumption) | exact ct_limbOf 1 (by decide) (by decide) | exact ct_gzero _ | exact ct_Mul0 _ _ (by omega) (by omega) (by omega) | exact ct_Sub0 _ _ (by omega) (by assumption) (by assumption) | exact ct_TruncN _ _ (by assumption) (by assumption) (by assumption)) ?_
        | refine AW_nil (fun (h : false = true) => by cases h) ?_
        | refine AW_nil (fun (_ : true = true) => by kernel_rfl) ?_
        | refine Wp_block ?_
        | refine Wp_skip ?_
        | refine Wp_exit ?_
        | refine Wp_ret ?_
      exact ⟨⟨n1, n0 % n1, x1, y1, nx, ny, rawOf (n1 : Int), rawOf x1, rawOf y1, rawOf ((n0 % n1 : Nat) : Int), rawOf nx, rawOf ny⟩, ⟨rfl, rfl, rfl, rfl, rfl, rfl, hg2, he⟩, le_of ⟨rfl, rfl, rfl, trivial⟩ ⟨rfl, rfl, trivial⟩ rfl, Nat.mod_lt _ (Nat.pos_of_ne_zero hn)⟩
  · have hn : n1 = 0 := by
      refine rawOf_len.1 (Decidable.byContradiction fun h => ?_)
      rw [decide_eq_false h] at hc
      cases hc
    subst hn
    rw [euc_zero] at he
    rw [← he]
    repeat first
      | refine Wp_seq ?_
      | refine Wp_region tm_mixed ?_
      | refine AW_move rfl rfl ?_
      | refine AW_assign rfl rfl ?_
      | refine AW_load rfl ty_num rfl rfl rfl rfl ?_
      | refine AW_load rfl ty_row rfl rfl rfl rfl ?_
      | refine AW_load rfl ty_rows rfl rfl rfl rfl ?_
      | refine AW_store ty_num rfl rfl rfl rfl rfl rfl rfl ?_
      | refine AW_store ty_row rfl rfl rfl rfl rfl rfl rfl ?_
      | refine AW_store ty_rows rfl rfl rfl rfl rfl rfl rfl ?_
      | refine AW_extract rfl rfl rfl ?_
      | refine AW_alloc rfl tz_num ?_
      | refine AW_alloc rfl tz_row ?_
      | refine AW_alloc rfl tz_rows ?_
      | refine AW_box rfl rfl (row := true) rfl (fun h => by cases h) rfl ?_
      | refine AW_not rfl rfl ?_
      | refine AW_build rfl tb_num rfl ?_
      | refine AW_build rfl tb_row rfl ?_
      | refine AW_build rfl tb_rows rfl ?_
      | refine AW_call rfl rfl (by first | exact ct_gsize _ (by assumption) | exact ct_limbOf 1 (by decide) (by decide) | exact ct_gzero _ | exact ct_Mul0 _ _ (by omega) (by omega) (by omega) | exact ct_Sub0 _ _ (by omega) (by assumption) (by assumption) | exact ct_TruncN _ _ (by assumption) (by assumption) (by assumption)) ?_
      | refine AW_ints rfl tu_nums ti_num ti_size ti_zero rfl rfl rfl (by first | exact .cons _ _ _ _ _ rfl (.cons _ _ _ _ _ rfl (.nil _)) | exact .cons _ _ _ _ _ rfl (.cons _ _ _ _ _ rfl (.cons _ _ _ _ _ rfl (.cons _ _ _ _ _ rfl (.nil _)))) | exact .cons _ _ _ _ _ rfl (.cons _ _ _ _ _ rfl (.cons _ _ _ _ _ rfl (.nil _))) | exact .cons _ _ _ _ _ rfl (.cons _ _ _ _ _ rfl (.cons _ _ _ _ _ rfl (.cons _ _ _ _ _ rfl (.cons _ _ _ _ _ rfl (.nil _)))))) ?_
      | refine AW_fieldAddr rfl tf_row0 rfl rfl ?_ | refine AW_fieldAddr rfl tf_row1 rfl rfl ?_ | refine AW_arrayAt rfl Tryz.underlying116 ts_row rfl rfl rfl rfl ?_ | refine AW_arrayAt rfl Tryz.underlying75 ts_num rfl rfl rfl rfl ?_
      | refine AW_pickT rfl rfl rfl ?_
      | refine AW_pickF rfl rfl rfl ?_
      | refine AW_skip rfl rfl rfl rfl ?_
      | refine AW_pickTg rfl rfl rfl rfl rfl rfl ?_
      | refine AW_pickFg rfl rfl rfl rfl rfl rfl ?_
      | refine AW_moveg rfl rfl rfl rfl rfl ?_
      | refine AW_notg rfl rfl rfl rfl rfl ?_
      | refine AW_eqg rfl rfl rfl rfl rfl rfl ?_
      | refine AW_eq rfl rfl rfl ?_
      | refine AW_loadg rfl rfl rfl rfl ty_num rfl rfl rfl rfl ?_
      | refine AW_loadg rfl rfl rfl rfl ty_row rfl rfl rfl rfl ?_
      | refine AW_loadg rfl rfl rfl rfl ty_rows rfl rfl rfl rfl ?_
      | refine AW_callg rfl rfl rfl rfl rfl (by first | exact ct_gsize _ (by assumption) | exact ct_limbOf 1 (by decide) (by decide) | exact ct_gzero _ | exact ct_Mul0 _ _ (by omega) (by omega) (by omega) | exact ct_Sub0 _ _ (by omega) (by assumption) (by assumption) | exact ct_TruncN _ _ (by assumption) (by assumption) (by assumption)) ?_
      | refine AW_nil (fun (h : false = true) => by cases h) ?_
      | refine AW_nil (fun (_ : true = true) => by kernel_rfl) ?_
      | refine Wp_block ?_
      | refine Wp_skip ?_
      | refine Wp_exit ?_
      | refine Wp_ret ?_
    exact ⟨.inr rfl, _, .cell _ _ _ _ _ _ _ _ _ _ _ ty_row rfl rfl rfl .nil, rfl⟩
end Go.Proofs.YtonbhpadoplpkaaGreat
/- The package gcd, by the abstract machine: Of, Lcm. -/
namespace Go.Proofs.YtonbhpadoplpkaaGreat
open Go.RowKit Go.Deep
theorem right_raw {z : Int} (h : lc z.natAbs ≤ 4096) : rightInt (rawOf z) = true := right_of h
theorem euc_gcd (whole : Bool) (n0 n1 : Nat) (x0 y0 x1 y1 : Int) : (euc whole n0 n1 x0 y0 x1 y1).1 = Nat.gcd n0 n1 := by
  induction n1 using Nat.strongRecOn generalizing n0 x0 y0 x1 y1 with
  | _ n1 ih =>
    by_cases h : n1 = 0
    · subst h; rw [euc_zero, Nat.gcd_zero_right]
    · rw [euc_step _ _ _ _ _ _ _ h, ih _ (Nat.mod_lt _ (Nat.pos_of_ne_zero h)), Nat.gcd_comm n1, ← Nat.gcd_rec, Nat.gcd_comm]
theorem eucR_gcd (whole : Bool) (a b : Nat) : (eucR whole a b).1 = Nat.gcd a b := euc_gcd _ _ _ _ _ _ _
theorem euc_row {A B : Nat} {whole : Bool} (n0 n1 : Nat) (x0 y0 x1 y1 : Int) (h : GRow A B whole n0 n1 x0 y0 x1 y1) : ∃ x2 y2, GRow A B whole (euc whole n0 n1 x0 y0 x1 y1).1 0 (euc whole n0 n1 x0 y0 x1 y1).2.1 (euc whole n0 n1 x0 y0 x1 y1).2.2 x2 y2 := by
  induction n1 using Nat.strongRecOn generalizing n0 x0 y0 x1 y1 with
  | _ n1 ih =>
    by_cases hn : n1 = 0
    · subst hn; rw [euc_zero]; exact ⟨x1, y1, h⟩
    · rw [euc_step _ _ _ _ _ _ _ hn]
      exact ih _ (Nat.mod_lt _ (Nat.pos_of_ne_zero hn)) _ _ _ _ _ (h.step hn)
theorem eucR_row (whole : Bool) (a b : Nat) : ∃ x2 y2, GRow a b whole (eucR whole a b).1 0 (eucR whole a b).2.1 (eucR whole a b).2.2 x2 y2 := euc_row _ _ _ _ _ _ (GRow.start a b whole)
theorem gcd_small {a b : Int} {k : Nat} (ha : lc a.natAbs ≤ k) (hb : lc b.natAbs ≤ k) : lc (Nat.gcd a.natAbs b.natAbs) ≤ k := by
  by_cases h : a.natAbs = 0
  · rw [h, Nat.gcd_zero_left]; exact hb
  · exact Nat.le_trans (lc_mono (Nat.le_of_dvd (by omega) (Nat.gcd_dvd_left _ _))) ha
abbrev gcdZ (a b : Int) : Int := (Nat.gcd a.natAbs b.natAbs : Nat)
set_option maxRecDepth 100000 in
theorem ct_gOf (a b : Int) (ha : lc a.natAbs ≤ 90) (hb : lc b.natAbs ≤ 90) : Ct Tryz.prog 27 [aZ a, aZ b] (.tup [zZ (gcdZ a b), aI 0]) := by
  refine ct_of_wp [.cell 4 24, .tmp 5] [(0, aZ a), (1, aZ b)] 16 Tryz.func27 rfl rfl rfl rfl rfl rfl rfl rfl ?_
  intro G0 w0
  repeat first
    | refine Wp_seq ?_
    | refine Wp_region tm_mixed ?_
    | refine AW_move rfl rfl ?_
    | refine AW_assign rfl rfl ?_
    | refine AW_load rfl ty_num rfl rfl rfl rfl ?_
    | refine AW_store ty_num rfl rfl rfl rfl rfl rfl rfl ?_
    | refine AW_extract rfl rfl rfl ?_
    | refine AW_alloc rfl tz_num ?_
    | refine AW_box rfl rfl (row := true) rfl (fun h => by cases h) rfl ?_
    | refine AW_not rfl rfl ?_
    | refine AW_build rfl tb_num rfl ?_
    | refine AW_call rfl rfl (by first | exact ct_right _ (Nat.le_of_ble_eq_true rfl) | exact ct_run _ _ _ ha hb) ?_
    | refine AW_ints rfl tu_nums ti_num ti_size ti_zero rfl rfl rfl (by first | exact .cons _ _ _ _ _ rfl (.cons _ _ _ _ _ rfl (.nil _)) | exact .cons _ _ _ _ _ rfl (.cons _ _ _ _ _ rfl (.cons _ _ _ _ _ rfl (.cons _ _ _ _ _ rfl (.nil _)))) | exact .cons _ _ _ _ _ rfl (.cons _ _ _ _ _ rfl (.cons _ _ _ _ _ rfl (.nil _))) | exact .cons _ _ _ _ _ rfl (.cons _ _ _ _ _ rfl (.cons _ _ _ _ _ rfl (.cons _ _ _ _ _ rfl (.cons _ _ _ _ _ rfl (.nil _)))))) ?_
    | refine AW_field rfl tf_row0 rfl rfl rfl ?_
    | refine AW_pickT rfl rfl rfl ?_
    | refine AW_pickF rfl rfl rfl ?_
    | refine AW_skip rfl rfl rfl rfl ?_
    | refine AW_pickTg rfl rfl rfl rfl rfl rfl ?_
    | refine AW_pickFg rfl rfl rfl rfl rfl rfl ?_
    | refine AW_moveg rfl rfl rfl rfl rfl ?_
    | refine AW_notg rfl rfl rfl rfl rfl ?_
    | refine AW_eqg rfl rfl rfl rfl rfl rfl ?_
    | refine AW_eq rfl rfl rfl ?_
    | refine AW_loadg rfl rfl rfl rfl ty_num rfl rfl rfl rfl ?_
    | refine AW_callg rfl rfl rfl rfl rfl (by first | exact ct_right _ (Nat.le_of_ble_eq_true rfl) | exact ct_run _ _ _ ha hb) ?_
    | refine AW_nil (fun (h : false = true) => by cases h) ?_
    | refine AW_nil (fun (_ : true = true) => by kernel_rfl) ?_
    | refine Wp_block ?_
    | refine Wp_skip ?_
    | refine Wp_exit ?_
    | refine Wp_ret ?_
  refine Wp_cond rfl (fun hc => ?_) (fun hc => ?_)
  · simp [right_raw (Nat.le_trans ha (by decide)), right_raw (Nat.le_trans hb (by decide))] at hc
  · repeat first
      | refine Wp_seq ?_
      | refine Wp_region tm_mixed ?_
      | refine AW_move rfl rfl ?_
      | refine AW_assign rfl rfl ?_
      | refine AW_load rfl ty_num rfl rfl rfl rfl ?_
      | refine AW_store ty_num rfl rfl rfl rfl rfl rfl rfl ?_
      | refine AW_extract rfl rfl rfl ?_
      | refine AW_alloc rfl tz_num ?_
      | refine AW_box rfl rfl (row := true) rfl (fun h => by cases h) rfl ?_
      | refine AW_not rfl rfl ?_
      | refine AW_build rfl tb_num rfl ?_
      | refine AW_call rfl rfl (by first | exact ct_right _ (Nat.le_of_ble_eq_true rfl) | exact ct_run _ _ _ ha hb) ?_
      | refine AW_ints rfl tu_nums ti_num ti_size ti_zero rfl rfl rfl (by first | exact .cons _ _ _ _ _ rfl (.cons _ _ _ _ _ rfl (.nil _)) | exact .cons _ _ _ _ _ rfl (.cons _ _ _ _ _ rfl (.cons _ _ _ _ _ rfl (.cons _ _ _ _ _ rfl (.nil _)))) | exact .cons _ _ _ _ _ rfl (.cons _ _ _ _ _ rfl (.cons _ _ _ _ _ rfl (.nil _))) | exact .cons _ _ _ _ _ rfl (.cons _ _ _ _ _ rfl (.cons _ _ _ _ _ rfl (.cons _ _ _ _ _ rfl (.cons _ _ _ _ _ rfl (.nil _)))))) ?_
      | refine AW_field rfl tf_row0 rfl rfl rfl ?_
      | refine AW_pickT rfl rfl rfl ?_
      | refine AW_pickF rfl rfl rfl ?_
      | refine AW_skip rfl rfl rfl rfl ?_
      | refine AW_pickTg rfl rfl rfl rfl rfl rfl ?_
      | refine AW_pickFg rfl rfl rfl rfl rfl rfl ?_
      | refine AW_moveg rfl rfl rfl rfl rfl ?_
      | refine AW_notg rfl rfl rfl rfl rfl ?_
      | refine AW_eqg rfl rfl rfl rfl rfl rfl ?_
      | refine AW_eq rfl rfl rfl ?_
      | refine AW_loadg rfl rfl rfl rfl ty_num rfl rfl rfl rfl ?_
      | refine AW_callg rfl rfl rfl rfl rfl (by first | exact ct_right _ (Nat.le_of_ble_eq_true rfl) | exact ct_run _ _ _ ha hb) ?_
      | refine AW_nil (fun (h : false = true) => by cases h) ?_
      | refine AW_nil (fun (_ : true = true) => by kernel_rfl) ?_
      | refine Wp_block ?_
      | refine Wp_skip ?_
      | refine Wp_exit ?_
      | refine Wp_ret ?_
    exact ⟨.inr rfl, _, .cell _ _ _ _ _ _ _ _ _ _ _ ty_num rfl rfl rfl (.tmp _ _ _ _ rfl .nil), by rw [eucR_gcd]; rfl⟩
def lcmZ (a b : Int) : Int := (a.natAbs : Int) * ((b.natAbs / Nat.gcd a.natAbs b.natAbs : Nat) : Int)
def lcmR (a b : Int) : Raw := if a = 0 ∨ b = 0 then (false, []) else rawOf (lcmZ a b)
set_option maxRecDepth 100000 in
theorem ct_gLcm (a b : Int) (ha : lc a.natAbs ≤ 90) (hb : lc b.natAbs ≤ 90) : Ct Tryz.prog 29 [aZ a, aZ b] (.tup [aInt (lcmR a b), aI 0]) := by
  have hla : lc a.natAbs ≤ 1099511627776 := by omega
  have hlb : lc b.natAbs ≤ 1099511627776 := by omega
  refine ct_of_wp [.cell 4 24, .tmp 5] [(0, aZ a), (1, aZ b)] 41 Tryz.func29 rfl rfl rfl rfl rfl rfl rfl rfl ?_
  intro G0 w0
  by_cases h0 : a = 0
  · have hR : lcmR a b = (false, []) := by unfold lcmR; rw [if_pos (.inl h0)]
    rw [hR]
    repeat first
      | refine Wp_seq ?_
      | refine Wp_region tm_mixed ?_
      | refine AW_move rfl rfl ?_
      | refine AW_assign rfl rfl ?_
      | refine AW_load rfl ty_num rfl rfl rfl rfl ?_
      | refine AW_store ty_num rfl rfl rfl rfl rfl rfl rfl ?_
      | refine AW_extract rfl rfl rfl ?_
      | refine AW_alloc rfl tz_num ?_
      | refine AW_box rfl rfl (row := true) rfl (fun h => by cases h) rfl ?_
      | refine AW_not rfl rfl ?_
      | refine AW_build rfl tb_num rfl ?_
      | refine AW_call rfl rfl (by first | exact ct_right _ (Nat.le_of_ble_eq_true rfl) | exact ct_gzeroT _ (by assumption) | exact ct_gzeroF _ (by assumption) | exact ct_gsize _ (by assumption) | exact ct_run _ _ _ ha hb) ?_
      | refine AW_ints rfl tu_nums ti_num ti_size ti_zero rfl rfl rfl (by first | exact .cons _ _ _ _ _ rfl (.cons _ _ _ _ _ rfl (.nil _)) | exact .cons _ _ _ _ _ rfl (.cons _ _ _ _ _ rfl (.cons _ _ _ _ _ rfl (.cons _ _ _ _ _ rfl (.nil _)))) | exact .cons _ _ _ _ _ rfl (.cons _ _ _ _ _ rfl (.cons _ _ _ _ _ rfl (.nil _))) | exact .cons _ _ _ _ _ rfl (.cons _ _ _ _ _ rfl (.cons _ _ _ _ _ rfl (.cons _ _ _ _ _ rfl (.cons _ _ _ _ _ rfl (.nil _)))))) ?_
      | refine AW_field rfl tf_row0 rfl rfl rfl ?_
      | refine AW_pickT rfl rfl rfl ?_
      | refine AW_pickF rfl rfl rfl ?_
      | refine AW_skip rfl rfl rfl rfl ?_
      | refine AW_pickTg rfl rfl rfl rfl rfl rfl ?_
      | refine AW_pickFg rfl rfl rfl rfl rfl rfl ?_
      | refine AW_moveg rfl rfl rfl rfl rfl ?_
      | refine AW_notg rfl rfl rfl rfl rfl ?_
      | refine AW_eqg rfl rfl rfl rfl rfl rfl ?_
      | refine AW_eq rfl rfl rfl ?_
      | refine AW_loadg rfl rfl rfl rfl ty_num rfl rfl rfl rfl ?_
      | refine AW_callg rfl rfl rfl rfl rfl (by first | exact ct_right _ (Nat.le_of_ble_eq_true rfl) | exact ct_gzeroT _ (by assumption) | exact ct_gzeroF _ (by assumption) | exact ct_gsize _ (by assumption) | exact ct_run _ _ _ ha hb) ?_
      | refine AW_nil (fun (h : false = true) => by cases h) ?_
      | refine AW_nil (fun (_ : true = true) => by kernel_rfl) ?_
      | refine Wp_block ?_
      | refine Wp_skip ?_
      | refine Wp_exit ?_
      | refine Wp_ret ?_
    refine Wp_cond rfl (fun hc => ?_) (fun hc => ?_)
    · simp [right_raw (Nat.le_trans ha (by decide)), right_raw (Nat.le_trans hb (by decide))] at hc
    · repeat first
        | refine Wp_seq ?_
        | refine Wp_region tm_mixed ?_
        | refine AW_move rfl rfl ?_
        | refine AW_assign rfl rfl ?_
        | refine AW_load rfl ty_num rfl rfl rfl rfl ?_
        | refine AW_store ty_num rfl rfl rfl rfl rfl rfl rfl ?_
        | refine AW_extract rfl rfl rfl ?_
        | refine AW_alloc rfl tz_num ?_
        | refine AW_box rfl rfl (row := true) rfl (fun h => by cases h) rfl ?_
        | refine AW_not rfl rfl ?_
        | refine AW_build rfl tb_num rfl ?_
        | refine AW_call rfl rfl (by first | exact ct_right _ (Nat.le_of_ble_eq_true rfl) | exact ct_gzeroT _ (by assumption) | exact ct_gzeroF _ (by assumption) | exact ct_gsize _ (by assumption) | exact ct_run _ _ _ ha hb) ?_
        | refine AW_ints rfl tu_nums ti_num ti_size ti_zero rfl rfl rfl (by first | exact .cons _ _ _ _ _ rfl (.cons _ _ _ _ _ rfl (.nil _)) | exact .cons _ _ _ _ _ rfl (.cons _ _ _ _ _ rfl (.cons _ _ _ _ _ rfl (.cons _ _ _ _ _ rfl (.nil _)))) | exact .cons _ _ _ _ _ rfl (.cons _ _ _ _ _ rfl (.cons _ _ _ _ _ rfl (.nil _))) | exact .cons _ _ _ _ _ rfl (.cons _ _ _ _ _ rfl (.cons _ _ _ _ _ rfl (.cons _ _ _ _ _ rfl (.cons _ _ _ _ _ rfl (.nil _)))))) ?_
        | refine AW_field rfl tf_row0 rfl rfl rfl ?_
        | refine AW_pickT rfl rfl rfl ?_
        | refine AW_pickF rfl rfl rfl ?_
        | refine AW_skip rfl rfl rfl rfl ?_
        | refine AW_pickTg rfl rfl rfl rfl rfl rfl ?_
        | refine AW_pickFg rfl rfl rfl rfl rfl rfl ?_
        | refine AW_moveg rfl rfl rfl rfl rfl ?_
        | refine AW_notg rfl rfl rfl rfl rfl ?_
        | refine AW_eqg rfl rfl rfl rfl rfl rfl ?_
        | refine AW_eq rfl rfl rfl ?_
        | refine AW_loadg rfl rfl rfl rfl ty_num rfl rfl rfl rfl ?_
        | refine AW_callg rfl rfl rfl rfl rfl (by first | exact ct_right _ (Nat.le_of_ble_eq_true rfl) | exact ct_gzeroT _ (by assumption) | exact ct_gzeroF _ (by assumption) | exact ct_gsize _ (by assumption) | exact ct_run _ _ _ ha hb) ?_
        | refine AW_nil (fun (h : false = true) => by cases h) ?_
        | refine AW_nil (fun (_ : true = true) => by kernel_rfl) ?_
        | refine Wp_block ?_
        | refine Wp_skip ?_
        | refine Wp_exit ?_
        | refine Wp_ret ?_
      refine Wp_condT rfl ?_
      repeat first
        | refine Wp_seq ?_
        | refine Wp_region tm_mixed ?_
        | refine AW_move rfl rfl ?_
        | refine AW_assign rfl rfl ?_
        | refine AW_load rfl ty_num rfl rfl rfl rfl ?_
        | refine AW_store ty_num rfl rfl rfl rfl rfl rfl rfl ?_
        | refine AW_extract rfl rfl rfl ?_
        | refine AW_alloc rfl tz_num ?_
        | refine AW_box rfl rfl (row := true) rfl (fun h => by cases h) rfl ?_
        | refine AW_not rfl rfl ?_
        | refine AW_build rfl tb_num rfl ?_
        | refine AW_call rfl rfl (by first | exact ct_right _ (Nat.le_of_ble_eq_true rfl) | exact ct_gzeroT _ (by assumption) | exact ct_gzeroF _ (by assumption) | exact ct_gsize _ (by assumption) | exact ct_run _ _ _ ha hb) ?_
        | refine AW_ints rfl tu_nums ti_num ti_size ti_zero rfl rfl rfl (by first | exact .cons _ _ _ _ _ rfl (.cons _ _ _ _ _ rfl (.nil _)) | exact .cons _ _ _ _ _ rfl (.cons _ _ _ _ _ rfl (.cons _ _ _ _ _ rfl (.cons _ _ _ _ _ rfl (.nil _)))) | exact .cons _ _ _ _ _ rfl (.cons _ _ _ _ _ rfl (.cons _ _ _ _ _ rfl (.nil _))) | exact .cons _ _ _ _ _ rfl (.cons _ _ _ _ _ rfl (.cons _ _ _ _ _ rfl (.cons _ _ _ _ _ rfl (.cons _ _ _ _ _ rfl (.nil _)))))) ?_
        | refine AW_field rfl tf_row0 rfl rfl rfl ?_
        | refine AW_pickT rfl rfl rfl ?_
        | refine AW_pickF rfl rfl rfl ?_
        | refine AW_skip rfl rfl rfl rfl ?_
        | refine AW_pickTg rfl rfl rfl rfl rfl rfl ?_
        | refine AW_pickFg rfl rfl rfl rfl rfl rfl ?_
        | refine AW_moveg rfl rfl rfl rfl rfl ?_
        | refine AW_notg rfl rfl rfl rfl rfl ?_
        | refine AW_eqg rfl rfl rfl rfl rfl rfl ?_
        | refine AW_eq rfl rfl rfl ?_
        | refine AW_loadg rfl rfl rfl rfl ty_num rfl rfl rfl rfl ?_
        | refine AW_callg rfl rfl rfl rfl rfl (by first | exact ct_right _ (Nat.le_of_ble_eq_true rfl) | exact ct_gzeroT _ (by assumption) | exact ct_gzeroF _ (by assumption) | exact ct_gsize _ (by assumption) | exact ct_run _ _ _ ha hb) ?_
        | refine AW_nil (fun (h : false = true) => by cases h) ?_
        | refine AW_nil (fun (_ : true = true) => by kernel_rfl) ?_
        | refine Wp_block ?_
        | refine Wp_skip ?_
        | refine Wp_exit ?_
        | refine Wp_ret ?_
      exact ⟨.inr rfl, _, .cell _ _ _ _ _ _ _ _ _ _ _ ty_num rfl rfl rfl (.tmp _ _ _ _ rfl .nil), rfl⟩
  · by_cases h1 : b = 0
    · have hR : lcmR a b = (false, []) := by unfold lcmR; rw [if_pos (.inr h1)]
      rw [hR]
      repeat first
        | refine Wp_seq ?_
        | refine Wp_region tm_mixed ?_
        | refine AW_move rfl rfl ?_
        | refine AW_assign rfl rfl ?_
        | refine AW_load rfl ty_num rfl rfl rfl rfl ?_
        | refine AW_store ty_num rfl rfl rfl rfl rfl rfl rfl ?_
        | refine AW_extract rfl rfl rfl ?_
        | refine AW_alloc rfl tz_num ?_
        | refine AW_box rfl rfl (row := true) rfl (fun h => by cases h) rfl ?_
        | refine AW_not rfl rfl ?_
        | refine AW_build rfl tb_num rfl ?_
        | refine AW_call rfl rfl (by first | exact ct_right _ (Nat.le_of_ble_eq_true rfl) | exact ct_gzeroT _ (by assumption) | exact ct_gzeroF _ (by assumption) | exact ct_gsize _ (by assumption) | exact ct_run _ _ _ ha hb) ?_
        | refine AW_ints rfl tu_nums ti_num ti_size ti_zero rfl rfl rfl (by first | exact .cons _ _ _ _ _ rfl (.cons _ _ _ _ _ rfl (.nil _)) | exact .cons _ _ _ _ _ rfl (.cons _ _ _ _ _ rfl (.cons _ _ _ _ _ rfl (.cons _ _ _ _ _ rfl (.nil _)))) | exact .cons _ _ _ _ _ rfl (.cons _ _ _ _ _ rfl (.cons _ _ _ _ _ rfl (.nil _))) | exact .cons _ _ _ _ _ rfl (.cons _ _ _ _ _ rfl (.cons _ _ _ _ _ rfl (.cons _ _ _ _ _ rfl (.cons _ _ _ _ _ rfl (.nil _)))))) ?_
        | refine AW_field rfl tf_row0 rfl rfl rfl ?_
        | refine AW_pickT rfl rfl rfl ?_
        | refine AW_pickF rfl rfl rfl ?_
        | refine AW_skip rfl rfl rfl rfl ?_
        | refine AW_pickTg rfl rfl rfl rfl rfl rfl ?_
        | refine AW_pickFg rfl rfl rfl rfl rfl rfl ?_
        | refine AW_moveg rfl rfl rfl rfl rfl ?_
        | refine AW_notg rfl rfl rfl rfl rfl ?_
        | refine AW_eqg rfl rfl rfl rfl rfl rfl ?_
        | refine AW_eq rfl rfl rfl ?_
        | refine AW_loadg rfl rfl rfl rfl ty_num rfl rfl rfl rfl ?_
        | refine AW_callg rfl rfl rfl rfl rfl (by first | exact ct_right _ (Nat.le_of_ble_eq_true rfl) | exact ct_gzeroT _ (by assumption) | exact ct_gzeroF _ (by assumption) | exact ct_gsize _ (by assumption) | exact ct_run _ _ _ ha hb) ?_
        | refine AW_nil (fun (h : false = true) => by cases h) ?_
        | refine AW_nil (fun (_ : true = true) => by kernel_rfl) ?_
        | refine Wp_block ?_
        | refine Wp_skip ?_
        | refine Wp_exit ?_
        | refine Wp_ret ?_
      refine Wp_cond rfl (fun hc => ?_) (fun hc => ?_)
      · simp [right_raw (Nat.le_trans ha (by decide)), right_raw (Nat.le_trans hb (by decide))] at hc
      · repeat first
          | refine Wp_seq ?_
          | refine Wp_region tm_mixed ?_
          | refine AW_move rfl rfl ?_
          | refine AW_assign rfl rfl ?_
          | refine AW_load rfl ty_num rfl rfl rfl rfl ?_
          | refine AW_store ty_num rfl rfl rfl rfl rfl rfl rfl ?_
          | refine AW_extract rfl rfl rfl ?_
          | refine AW_alloc rfl tz_num ?_
          | refine AW_box rfl rfl (row := true) rfl (fun h => by cases h) rfl ?_
          | refine AW_not rfl rfl ?_
          | refine AW_build rfl tb_num rfl ?_
          | refine AW_call rfl rfl (by first | exact ct_right _ (Nat.le_of_ble_eq_true rfl) | exact ct_gzeroT _ (by assumption) | exact ct_gzeroF _ (by assumption) | exact ct_gsize _ (by assumption) | exact ct_run _ _ _ ha hb) ?_
          | refine AW_ints rfl tu_nums ti_num ti_size ti_zero rfl rfl rfl (by first | exact .cons _ _ _ _ _ rfl (.cons _ _ _ _ _ rfl (.nil _)) | exact .cons _ _ _ _ _ rfl (.cons _ _ _ _ _ rfl (.cons _ _ _ _ _ rfl (.cons _ _ _ _ _ rfl (.nil _)))) | exact .cons _ _ _ _ _ rfl (.cons _ _ _ _ _ rfl (.cons _ _ _ _ _ rfl (.nil _))) | exact .cons _ _ _ _ _ rfl (.cons _ _ _ _ _ rfl (.cons _ _ _ _ _ rfl (.cons _ _ _ _ _ rfl (.cons _ _ _ _ _ rfl (.nil _)))))) ?_
          | refine AW_field rfl tf_row0 rfl rfl rfl ?_
          | refine AW_pickT rfl rfl rfl ?_
          | refine AW_pickF rfl rfl rfl ?_
          | refine AW_skip rfl rfl rfl rfl ?_
          | refine AW_pickTg rfl rfl rfl rfl rfl rfl ?_
          | refine AW_pickFg rfl rfl rfl rfl rfl rfl ?_
          | refine AW_moveg rfl rfl rfl rfl rfl ?_
          | refine AW_notg rfl rfl rfl rfl rfl ?_
          | refine AW_eqg rfl rfl rfl rfl rfl rfl ?_
          | refine AW_eq rfl rfl rfl ?_
          | refine AW_loadg rfl rfl rfl rfl ty_num rfl rfl rfl rfl ?_
          | refine AW_callg rfl rfl rfl rfl rfl (by first | exact ct_right _ (Nat.le_of_ble_eq_true rfl) | exact ct_gzeroT _ (by assumption) | exact ct_gzeroF _ (by assumption) | exact ct_gsize _ (by assumption) | exact ct_run _ _ _ ha hb) ?_
          | refine AW_nil (fun (h : false = true) => by cases h) ?_
          | refine AW_nil (fun (_ : true = true) => by kernel_rfl) ?_
          | refine Wp_block ?_
          | refine Wp_skip ?_
          | refine Wp_exit ?_
          | refine Wp_ret ?_
        refine Wp_condT rfl ?_
        repeat first
          | refine Wp_seq ?_
          | refine Wp_region tm_mixed ?_
          | refine AW_move rfl rfl ?_
          | refine AW_assign rfl rfl ?_
          | refine AW_load rfl ty_num rfl rfl rfl rfl ?_
          | refine AW_store ty_num rfl rfl rfl rfl rfl rfl rfl ?_
          | refine AW_extract rfl rfl rfl ?_
          | refine AW_alloc rfl tz_num ?_
          | refine AW_box rfl rfl (row := true) rfl (fun h => by cases h) rfl ?_
          | refine AW_not rfl rfl ?_
          | refine AW_build rfl tb_num rfl ?_
          | refine AW_call rfl rfl (by first | exact ct_right _ (Nat.le_of_ble_eq_true rfl) | exact ct_gzeroT _ (by assumption) | exact ct_gzeroF _ (by assumption) | exact ct_gsize _ (by assumption) | exact ct_run _ _ _ ha hb) ?_
          | refine AW_ints rfl tu_nums ti_num ti_size ti_zero rfl rfl rfl (by first | exact .cons _ _ _ _ _ rfl (.cons _ _ _ _ _ rfl (.nil _)) | exact .cons _ _ _ _ _ rfl (.cons _ _ _ _ _ rfl (.cons _ _ _ _ _ rfl (.cons _ _ _ _ _ rfl (.nil _)))) | exact .cons _ _ _ _ _ rfl (.cons _ _ _ _ _ rfl (.cons _ _ _ _ _ rfl (.nil _))) | exact .cons _ _ _ _ _ rfl (.cons _ _ _ _ _ rfl (.cons _ _ _ _ _ rfl (.cons _ _ _ _ _ rfl (.cons _ _ _ _ _ rfl (.nil _)))))) ?_
          | refine AW_field rfl tf_row0 rfl rfl rfl ?_
          | refine AW_pickT rfl rfl rfl ?_
          | refine AW_pickF rfl rfl rfl ?_
          | refine AW_skip rfl rfl rfl rfl ?_
          | refine AW_pickTg rfl rfl rfl rfl rfl rfl ?_
          | refine AW_pickFg rfl rfl rfl rfl rfl rfl ?_
          | refine AW_moveg rfl rfl rfl rfl rfl ?_
          | refine AW_notg rfl rfl rfl rfl rfl ?_
          | refine AW_eqg rfl rfl rfl rfl rfl rfl ?_
          | refine AW_eq rfl rfl rfl ?_
          | refine AW_loadg rfl rfl rfl rfl ty_num rfl rfl rfl rfl ?_
          | refine AW_callg rfl rfl rfl rfl rfl (by first | exact ct_right _ (Nat.le_of_ble_eq_true rfl) | exact ct_gzeroT _ (by assumption) | exact ct_gzeroF _ (by assumption) | exact ct_gsize _ (by assumption) | exact ct_run _ _ _ ha hb) ?_
          | refine AW_nil (fun (h : false = true) => by cases h) ?_
          | refine AW_nil (fun (_ : true = true) => by kernel_rfl) ?_
          | refine Wp_block ?_
          | refine Wp_skip ?_
          | refine Wp_exit ?_
          | refine Wp_ret ?_
        exact ⟨.inr rfl, _, .cell _ _ _ _ _ _ _ _ _ _ _ ty_num rfl rfl rfl (.tmp _ _ _ _ rfl .nil), rfl⟩
    · have hR : lcmR a b = rawOf (lcmZ a b) := by unfold lcmR; rw [if_neg (by simp [h0, h1])]
      rw [hR]
      have k1 : lc (b.natAbs : Int).natAbs ≤ 1200 := by rw [Int.natAbs_natCast]; omega
      have k2 : lc (((eucR false a.natAbs b.natAbs).1 : Int)).natAbs ≤ 1200 := by rw [eucR_gcd, Int.natAbs_natCast]; exact Nat.le_trans (gcd_small ha hb) (by decide)
      have k3 : ((eucR false a.natAbs b.natAbs).1 : Int) ≠ 0 := by rw [eucR_gcd]; have := Nat.gcd_pos_of_pos_left b.natAbs (show 0 < a.natAbs by omega); omega
      have k4 : (b.natAbs : Int).tmod ((eucR false a.natAbs b.natAbs).1 : Int) = 0 := by
        rw [eucR_gcd]
        show ((b.natAbs % Nat.gcd a.natAbs b.natAbs : Nat) : Int) = 0
        rw [Nat.mod_eq_zero_of_dvd (Nat.gcd_dvd_right _ _)]; rfl
      have kE := ct_Exact0 _ _ k1 k2 k3 k4
      have e5 : (b.natAbs : Int).tdiv ((eucR false a.natAbs b.natAbs).1 : Int) = ((b.natAbs / Nat.gcd a.natAbs b.natAbs : Nat) : Int) := by rw [eucR_gcd]; rfl
      rw [e5] at kE
      have kM := ct_Mul0 (a.natAbs : Int) ((b.natAbs / Nat.gcd a.natAbs b.natAbs : Nat) : Int) (by rw [Int.natAbs_natCast]; omega) (by rw [Int.natAbs_natCast]; exact Nat.le_trans (lc_mono (Nat.div_le_self _ _)) (by omega)) (by
        rw [Int.natAbs_natCast, Int.natAbs_natCast]; have := lc_mono (Nat.div_le_self b.natAbs (Nat.gcd a.natAbs b.natAbs)); omega)
      repeat first
        | refine Wp_seq ?_
        | refine Wp_region tm_mixed ?_
        | refine AW_move rfl rfl ?_
        | refine AW_assign rfl rfl ?_
        | refine AW_load rfl ty_num rfl rfl rfl rfl ?_
        | refine AW_store ty_num rfl rfl rfl rfl rfl rfl rfl ?_
        | refine AW_extract rfl rfl rfl ?_
        | refine AW_alloc rfl tz_num ?_
        | refine AW_box rfl rfl (row := true) rfl (fun h => by cases h) rfl ?_
        | refine AW_not rfl rfl ?_
        | refine AW_build rfl tb_num rfl ?_
        | refine AW_call rfl rfl (by first | exact ct_right _ (Nat.le_of_ble_eq_true rfl) | exact ct_gzeroT _ (by assumption) | exact ct_gzeroF _ (by assumption) | exact ct_gsize _ (by assumption) | exact ct_run _ _ _ ha hb | exact kE | exact kM) ?_
        | refine AW_ints rfl tu_nums ti_num ti_size ti_zero rfl rfl rfl (by first | exact .cons _ _ _ _ _ rfl (.cons _ _ _ _ _ rfl (.nil _)) | exact .cons _ _ _ _ _ rfl (.cons _ _ _ _ _ rfl (.cons _ _ _ _ _ rfl (.cons _ _ _ _ _ rfl (.nil _)))) | exact .cons _ _ _ _ _ rfl (.cons _ _ _ _ _ rfl (.cons _ _ _ _ _ rfl (.nil _))) | exact .cons _ _ _ _ _ rfl (.cons _ _ _ _ _ rfl (.cons _ _ _ _ _ rfl (.cons _ _ _ _ _ rfl (.cons _ _ _ _ _ rfl (.nil _)))))) ?_
        | refine AW_field rfl tf_row0 rfl rfl rfl ?_
        | refine AW_pickT rfl rfl rfl ?_
        | refine AW_pickF rfl rfl rfl ?_
        | refine AW_skip rfl rfl rfl rfl ?_
        | refine AW_pickTg rfl rfl rfl rfl rfl rfl ?_
        | refine AW_pickFg rfl rfl rfl rfl rfl rfl ?_
        | refine AW_moveg rfl rfl rfl rfl rfl ?_
        | refine AW_notg rfl rfl rfl rfl rfl ?_
        | refine AW_eqg rfl rfl rfl rfl rfl rfl ?_
        | refine AW_eq rfl rfl rfl ?_
        | refine AW_loadg rfl rfl rfl rfl ty_num rfl rfl rfl rfl ?_
        | refine AW_callg rfl rfl rfl rfl rfl (by first | exact ct_right _ (Nat.le_of_ble_eq_true rfl) | exact ct_gzeroT _ (by assumption) | exact ct_gzeroF _ (by assumption) | exact ct_gsize _ (by assumption) | exact ct_run _ _ _ ha hb | exact kE | exact kM) ?_
        | refine AW_nil (fun (h : false = true) => by cases h) ?_
        | refine AW_nil (fun (_ : true = true) => by kernel_rfl) ?_
        | refine Wp_block ?_
        | refine Wp_skip ?_
        | refine Wp_exit ?_
        | refine Wp_ret ?_
      refine Wp_cond rfl (fun hc => ?_) (fun hc => ?_)
      · simp [right_raw (Nat.le_trans ha (by decide)), right_raw (Nat.le_trans hb (by decide))] at hc
      · repeat first
          | refine Wp_seq ?_
          | refine Wp_region tm_mixed ?_
          | refine AW_move rfl rfl ?_
          | refine AW_assign rfl rfl ?_
          | refine AW_load rfl ty_num rfl rfl rfl rfl ?_
          | refine AW_store ty_num rfl rfl rfl rfl rfl rfl rfl ?_
          | refine AW_extract rfl rfl rfl ?_
          | refine AW_alloc rfl tz_num ?_
          | refine AW_box rfl rfl (row := true) rfl (fun h => by cases h) rfl ?_
          | refine AW_not rfl rfl ?_
          | refine AW_build rfl tb_num rfl ?_
          | refine AW_call rfl rfl (by first | exact ct_right _ (Nat.le_of_ble_eq_true rfl) | exact ct_gzeroT _ (by assumption) | exact ct_gzeroF _ (by assumption) | exact ct_gsize _ (by assumption) | exact ct_run _ _ _ ha hb | exact kE | exact kM) ?_
          | refine AW_ints rfl tu_nums ti_num ti_size ti_zero rfl rfl rfl (by first | exact .cons _ _ _ _ _ rfl (.cons _ _ _ _ _ rfl (.nil _)) | exact .cons _ _ _ _ _ rfl (.cons _ _ _ _ _ rfl (.cons _ _ _ _ _ rfl (.cons _ _ _ _ _ rfl (.nil _)))) | exact .cons _ _ _ _ _ rfl (.cons _ _ _ _ _ rfl (.cons _ _ _ _ _ rfl (.nil _))) | exact .cons _ _ _ _ _ rfl (.cons _ _ _ _ _ rfl (.cons _ _ _ _ _ rfl (.cons _ _ _ _ _ rfl (.cons _ _ _ _ _ rfl (.nil _)))))) ?_
          | refine AW_field rfl tf_row0 rfl rfl rfl ?_
          | refine AW_pickT rfl rfl rfl ?_
          | refine AW_pickF rfl rfl rfl ?_
          | refine AW_skip rfl rfl rfl rfl ?_
          | refine AW_pickTg rfl rfl rfl rfl rfl rfl ?_
          | refine AW_pickFg rfl rfl rfl rfl rfl rfl ?_
          | refine AW_moveg rfl rfl rfl rfl rfl ?_
          | refine AW_notg rfl rfl rfl rfl rfl ?_
          | refine AW_eqg rfl rfl rfl rfl rfl rfl ?_
          | refine AW_eq rfl rfl rfl ?_
          | refine AW_loadg rfl rfl rfl rfl ty_num rfl rfl rfl rfl ?_
          | refine AW_callg rfl rfl rfl rfl rfl (by first | exact ct_right _ (Nat.le_of_ble_eq_true rfl) | exact ct_gzeroT _ (by assumption) | exact ct_gzeroF _ (by assumption) | exact ct_gsize _ (by assumption) | exact ct_run _ _ _ ha hb | exact kE | exact kM) ?_
          | refine AW_nil (fun (h : false = true) => by cases h) ?_
          | refine AW_nil (fun (_ : true = true) => by kernel_rfl) ?_
          | refine Wp_block ?_
          | refine Wp_skip ?_
          | refine Wp_exit ?_
          | refine Wp_ret ?_
        refine Wp_condF rfl ?_
        repeat first
          | refine Wp_seq ?_
          | refine Wp_region tm_mixed ?_
          | refine AW_move rfl rfl ?_
          | refine AW_assign rfl rfl ?_
          | refine AW_load rfl ty_num rfl rfl rfl rfl ?_
          | refine AW_store ty_num rfl rfl rfl rfl rfl rfl rfl ?_
          | refine AW_extract rfl rfl rfl ?_
          | refine AW_alloc rfl tz_num ?_
          | refine AW_box rfl rfl (row := true) rfl (fun h => by cases h) rfl ?_
          | refine AW_not rfl rfl ?_
          | refine AW_build rfl tb_num rfl ?_
          | refine AW_call rfl rfl (by first | exact ct_right _ (Nat.le_of_ble_eq_true rfl) | exact ct_gzeroT _ (by assumption) | exact ct_gzeroF _ (by assumption) | exact ct_gsize _ (by assumption) | exact ct_run _ _ _ ha hb | exact kE | exact kM) ?_
          | refine AW_ints rfl tu_nums ti_num ti_size ti_zero rfl rfl rfl (by first | exact .cons _ _ _ _ _ rfl (.cons _ _ _ _ _ rfl (.nil _)) | exact .cons _ _ _ _ _ rfl (.cons _ _ _ _ _ rfl (.cons _ _ _ _ _ rfl (.cons _ _ _ _ _ rfl (.nil _)))) | exact .cons _ _ _ _ _ rfl (.cons _ _ _ _ _ rfl (.cons _ _ _ _ _ rfl (.nil _))) | exact .cons _ _ _ _ _ rfl (.cons _ _ _ _ _ rfl (.cons _ _ _ _ _ rfl (.cons _ _ _ _ _ rfl (.cons _ _ _ _ _ rfl (.nil _)))))) ?_
          | refine AW_field rfl tf_row0 rfl rfl rfl ?_
          | refine AW_pickT rfl rfl rfl ?_
          | refine AW_pickF rfl rfl rfl ?_
          | refine AW_skip rfl rfl rfl rfl ?_
          | refine AW_pickTg rfl rfl rfl rfl rfl rfl ?_
          | refine AW_pickFg rfl rfl rfl rfl rfl rfl ?_
          | refine AW_moveg rfl rfl rfl rfl rfl ?_
          | refine AW_notg rfl rfl rfl rfl rfl ?_
          | refine AW_eqg rfl rfl rfl rfl rfl rfl ?_
          | refine AW_eq rfl rfl rfl ?_
          | refine AW_loadg rfl rfl rfl rfl ty_num rfl rfl rfl rfl ?_
          | refine AW_callg rfl rfl rfl rfl rfl (by first | exact ct_right _ (Nat.le_of_ble_eq_true rfl) | exact ct_gzeroT _ (by assumption) | exact ct_gzeroF _ (by assumption) | exact ct_gsize _ (by assumption) | exact ct_run _ _ _ ha hb | exact kE | exact kM) ?_
          | refine AW_nil (fun (h : false = true) => by cases h) ?_
          | refine AW_nil (fun (_ : true = true) => by kernel_rfl) ?_
          | refine Wp_block ?_
          | refine Wp_skip ?_
          | refine Wp_exit ?_
          | refine Wp_ret ?_
        exact ⟨.inr rfl, _, .cell _ _ _ _ _ _ _ _ _ _ _ ty_num rfl rfl rfl (.tmp _ _ _ _ rfl .nil), rfl⟩
end Go.Proofs.YtonbhpadoplpkaaGreat
