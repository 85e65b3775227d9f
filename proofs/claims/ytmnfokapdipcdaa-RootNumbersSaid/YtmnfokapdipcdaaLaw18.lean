import Derived.Test.YtmnfokapdipcdaaR18d
import Derived.Test.YtmnfokapdipcdaaRaw
import Derived.Test.YtmnfokapdipcdaaKit
/- The law of layer 18: is, whole, and its fixed answers. -/
namespace Go.Proofs.Ytmnfokapdipcdaa
open Go.RowKit Go.Deep
theorem RawV.none (w : World) : RawV w none2 (false, []) := ⟨Option.none, 0, 0, rfl, rfl, Nat.le_refl _, Lim.nil _ _ _⟩
set_option maxRecDepth 100000 in
theorem law18_is (u v : Value) (x y : Raw) (e f : Int) (w : World) (hu : RawV w u x) (hv : RawV w v y) (hl : x.2.length ≤ 1099511627776) :
    Calls Try.prog 36 #[u, .int .i64 e, v, .int .i64 f] w fun o w' => o = .returned (.bool (decide (e = f) && decide (x = y))) ∧ Below w.heap.size w w' := by
  obtain ⟨A1, l1, c1, rfl, e1, hc1, h1⟩ := hu
  obtain ⟨A2, l2, c2, rfl, e2, hc2, h2⟩ := hv
  have HL := Lib.hid hl
  have H1 := Lib.hid (And.intro e1 h1)
  have H2 := Lib.hid (And.intro e2 h2)
  obtain ⟨b1, hb1⟩ : ∃ b1, x.1 = b1 := ⟨_, rfl⟩
  obtain ⟨b2, hb2⟩ : ∃ b2, y.1 = b2 := ⟨_, rfl⟩
  have HX := Lib.hid (show x = (b1, x.2) by rw [← hb1])
  have HY := Lib.hid (show y = (b2, y.2) by rw [← hb2])
  rw [hb1, hb2]
  clear e1 h1 e2 h2 hl hb1 hb2 hc1 hc2
  go_enter Try.func36, Try.ntmps36
  by_cases he : e = f
  · subst he
    have hz : decide (e = e) = true := decide_eq_true rfl
    have HZ := Lib.hid hz
    clear hz
    go_wp2_with fail
    obtain ⟨W0, g, r, hW, hg, hr, hgr, bx, br, hbw, hsz⟩ := box_two w (.bool b1) (.slice A1 l1 c1) (.bool b2) (.slice A2 l2 c2)
    have HBW := Lib.hid (show Below w.heap.size w W0 from by rw [hg]; exact hbw)
    rw [hW, hr, hg]
    clear hW hr hg hgr hsz hbw bx br
    refine (kit_int b1 b2 A1 A2 l1 l2 c1 c2 x.2 y.2 W0 (B1 := w.heap.size) (B2 := w.heap.size) HBW.out.size HBW.out.size (H1.out.2.below HBW.out) (H2.out.2.below HBW.out) H1.out.1 H2.out.1 (by have := HL.out; have := H1.out.1; omega)).mono ?_
    rintro o w1 ⟨rfl, hb1⟩
    rw [← HX.out, ← HY.out]
    obtain ⟨d, hd⟩ : ∃ d, decide (x = y) = d := ⟨_, rfl⟩
    have HD := Lib.hid hd
    rw [hd]
    clear hd
    go_wp2_with fail
    go_ret
    exact ⟨by rw [HD.out]; simp, HBW.out.trans (hb1.mono HBW.out.size)⟩
  · have hz : decide (e = f) = false := decide_eq_false he
    have hzb : (e == f) = false := beq_eq_false_iff_ne.2 he
    have HZ := Lib.hid hz
    clear hz he
    go_wp2_with fail
    go_ret
    refine ⟨by rw [HZ.out]; simp, ((Below.refl _ w).alloc (Nat.le_refl _) _).alloc (by simp) _⟩
set_option maxRecDepth 100000 in
theorem law18_whole (b : Bool) (n : Nat) (w : World) (hn : n < W64) :
    Calls Try.prog 41 #[.bool b, .int .u64 (n : Int)] w fun o w' => ∃ v, o = .returned v ∧ RawV w' v (b, [n]) ∧ Below w.heap.size w w' := by
  have HN := Lib.hid hn
  clear hn
  go_enter Try.func41, Try.ntmps41
  go_upto_region 1 with (fail)
  obtain ⟨W0, r, hW, hr, br, hbw, hsz⟩ := box_new w (.bool false) (.slice none 0 0)
  have HR := Lib.hid (show w.heap.size ≤ r from by omega)
  have HBW := Lib.hid (show Below w.heap.size w W0 from by rw [hr]; exact hbw)
  rw [hW, hr]
  clear hW hr hbw hsz
  have HLI := Lib.hid (Lim.lit W0 n HN.out)
  have hba : Below W0.heap.size W0 (W0.alloc (.cells #[.int .u64 (n : Int)] 33)) := (Below.refl _ _).alloc (Nat.le_refl _) _
  have br2 := br.below hba br.lt
  have HB2 := Lib.hid (HBW.out.trans (hba.mono HBW.out.size))
  have HSZ := Lib.hid (show (W0.alloc (.cells #[.int .u64 (n : Int)] 33)).heap.size = W0.heap.size + 1 by simp)
  have a0 := br2.cell0
  have a1 := br2.cell1
  have f0 := br2.free 0
  have f1 := br2.free 1
  have nn := br2.nums
  clear hba br
  go_wp2_with fail
  refine bodyPost_ret (results_cell_row rfl _ _ r 36 #[.bool b, (.slice (some ⟨W0.heap.size, 0, none⟩) 1 1)] (0, 0) _ (by rfl) br2.store Try.underlying36 rfl (by kernel_rfl)) rfl ?_
  refine ⟨_, rfl, ⟨some ⟨W0.heap.size, 0, none⟩, 1, 1, rfl, rfl, Nat.le_refl _, ?_⟩, store2_below HB2.out HR.out⟩
  have h := (HLI.out.more (by rw [HSZ.out]; exact Nat.le_refl _)).ext (Nat.le_refl _) (ext_store2 (a := .bool b) (b := .slice (some ⟨W0.heap.size, 0, none⟩) 1 1) nn)
  exact h.more (ext_store2 (a := .bool b) (b := .slice (some ⟨W0.heap.size, 0, none⟩) 1 1) nn).size
theorem perf64 {y : Int} {k : Nat} (h : PerfOf (-64) y k) : y = -4 ∧ k = 3 := by
  rcases h with ⟨h0, _⟩ | ⟨_, x, hp, rfl⟩
  · exact absurd h0 (by decide)
  · have h1 : (3 : Nat) = k ∧ (4 : Nat) = x := hp.only (by omega) (fun _ => rfl) (by decide) (fun q hq ho z hz => by
      have ho := ho (by decide)
      have e64 : (-64 : Int).natAbs = 64 := by decide
      rw [e64] at hz
      have hz2 : 2 ≤ z := two_le_of_pow hz (by omega)
      have hq2 := pow_bits hz (by omega)
      have hq3 : nbits 64 ≤ 7 := nbits_le.2 (by decide)
      obtain rfl : q = 5 := by omega
      by_cases h2 : z = 2
      · subst h2; exact absurd hz (by decide)
      · have h3 := Nat.pow_le_pow_left (show 3 ≤ z by omega) 5
        rw [hz] at h3
        exact absurd h3 (by decide))
    obtain ⟨rfl, rfl⟩ := h1
    exact ⟨by decide, rfl⟩
theorem root10 : isqrt 10 = 3 := by
  have h := isqrt_spec 10
  have h1 : isqrt 10 ≤ 3 := isqrt_le.2 (by decide)
  have h2 : 3 ≤ isqrt 10 := le_isqrt.2 (by decide)
  omega
theorem root9 : rootZ 3 (-9) = -3 := by
  have h : iroot 3 9 = 2 := iroot_eq (by omega) (by decide) (by decide)
  unfold rootZ
  rw [if_neg (by decide), show (-9 : Int).natAbs = 9 from rfl, h]
  decide
end Go.Proofs.Ytmnfokapdipcdaa
