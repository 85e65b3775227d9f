import Derived.Test.YtmnfokapdipcdaaLimb
import Derived.Test.YtmnfokapdipcdaaInt3
import Derived.Test.YtmnfokapdipcdaaBits
/- The package limb, on: Cmp, Add, Sub, Of. -/
namespace Go.Proofs.Ytmnfokapdipcdaa
open Go.RowKit Go.Deep
theorem cmpZ_case (x y : Int) (r : Int) (h : (r < 0 ↔ x.natAbs < y.natAbs) ∧ (0 < r ↔ y.natAbs < x.natAbs)) :
    cmpZ x y = if (decide (x < 0) != decide (y < 0) && decide (x < 0) || decide (x < 0) == decide (y < 0) && decide (x < 0) && decide (0 < r) || decide (x < 0) == decide (y < 0) && !decide (x < 0) && decide (r < 0)) then -1 else if decide (x < 0) == decide (y < 0) && r == 0 then 0 else 1 := by
  unfold cmpZ
  by_cases h1 : x < 0 <;> by_cases h2 : y < 0 <;> simp [h1, h2] <;> grind
set_option maxRecDepth 100000 in
theorem limb_Cmp (u v : Value) (x y : Int) (w : World) (hx : IntV w u x) (hy : IntV w v y) (lx : lc x.natAbs ≤ 4096) (ly : lc y.natAbs ≤ 4096) :
    Calls Try.prog 43 #[u, v] w fun e w' => e = .returned (.tuple #[.int .i64 (cmpZ x y), .int .i64 0]) ∧ Below w.heap.size w w' := by
  obtain ⟨A1, l1, c1, rfl, hl1, hc1, hlim1⟩ := hx
  obtain ⟨A2, l2, c2, rfl, hl2, hc2, hlim2⟩ := hy
  have HR1 := Lib.hid (right_of lx)
  have HR2 := Lib.hid (right_of ly)
  have HL1 := Lib.hid hl1
  have HL2 := Lib.hid hl2
  have hI1 : (l1 : Int) ≤ 4096 := by unfold lc at lx; omega
  have hI2 : (l2 : Int) ≤ 4096 := by unfold lc at ly; omega
  have HX := Lib.hid lx
  have HY := Lib.hid ly
  clear hl1 hl2 lx ly
  obtain ⟨s1, hs1⟩ : ∃ s, decide (x < 0) = s := ⟨_, rfl⟩
  obtain ⟨s2, hs2⟩ : ∃ s, decide (y < 0) = s := ⟨_, rfl⟩
  have HS1 := Lib.hid hs1
  have HS2 := Lib.hid hs2
  rw [hs1, hs2]
  clear hs1 hs2
  go_enter Try.func43, Try.ntmps43
  go_wp2_with fail
  obtain ⟨W0, g, h, hW, hg, hr, hgr, bx, by_, hbw, hsz⟩ := box_two w (.bool s1) (.slice A1 l1 c1) (.bool s2) (.slice A2 l2 c2)
  have HW := Lib.hid (show w.heap.size = g from hg)
  rw [hW, hr, hg]
  have k1 := ((hg ▸ hlim1 : Lim w g A1 (limbs x.natAbs)).below hbw)
  have k2 := ((hg ▸ hlim2 : Lim w g A2 (limbs y.natAbs)).below hbw)
  clear hW hr hg hlim1 hlim2
  refine (limb_right s1 A1 l1 c1 (limbs x.natAbs) W0 (by omega) k1 HL1.out).mono ?_
  rintro e w1 ⟨rfl, hb1⟩
  rw [← HS1.out, HR1.out, HS1.out]
  have hb1 : Below g W0 w1 := hb1.mono (by omega)
  have hbw1 := hbw.trans hb1
  have k1 := k1.below hb1
  have k2 := k2.below hb1
  have bx := bx.below (B := W0.heap.size) (by assumption) bx.lt
  have by_ := by_.below (B := W0.heap.size) (by assumption) by_.lt
  have a0 := bx.cell0
  have a1 := bx.cell1
  have b0 := by_.cell0
  have b1 := by_.cell1
  go_wp2_with fail
  refine (limb_right s2 A2 l2 c2 (limbs y.natAbs) w1 (by have := hb1.size; omega) k2 HL2.out).mono ?_
  rintro e w2 ⟨rfl, hb2⟩
  rw [← HS2.out, HR2.out, HS2.out]
  have bx := bx.below hb2 bx.lt
  have by_ := by_.below hb2 by_.lt
  have hbw2 := hbw1.trans (hb2.mono (by have := hb1.size; omega))
  have k1 := k1.below (hb2.mono (by have := hb1.size; omega))
  have k2 := k2.below (hb2.mono (by have := hb1.size; omega))
  have a0 := bx.cell0
  have a1 := bx.cell1
  have b0 := by_.cell0
  have b1 := by_.cell1
  go_wp2_with fail
  refine (limb_sizes A1 A2 l1 l2 c1 c2 x.natAbs y.natAbs w2 k1 k2 HL1.out HL2.out (by omega) (by omega)).mono ?_
  rintro e w3 ⟨q, rfl, hq, n, rfl⟩
  have HC := Lib.hid (cmpZ_case x y q hq)
  rw [HS1.out, HS2.out] at HC
  have hF : Below w.heap.size w (w2.drewN n) := by rw [HW.out]; exact below_drewN hbw2 n
  have HF := Lib.hid hF
  have a0 : (w2.drewN n).cell? ⟨g, 0, none⟩ = some (.bool s1) := a0
  have b0 : (w2.drewN n).cell? ⟨h, 0, none⟩ = some (.bool s2) := b0
  clear hF hbw2 k1 k2 hbw1 hb1 hb2
  rcases Int.lt_trichotomy q 0 with hq0 | hq0 | hq0
  · have HQ := Lib.hid hq0
    have q1 : ¬ (0 < q) := by omega
    have q2 : (q == 0) = false := beq_eq_false_iff_ne.2 (by omega)
    clear hq
    cases s1 <;> cases s2
    all_goals
      have HZ := Lib.hid (HC.out.trans (by simp [HQ.out, q1, q2]; rfl) : cmpZ x y = _)
      go_wp2_with fail
      go_ret2
      rw [HZ.out]
      exact ⟨rfl, HF.out⟩
  · subst hq0
    clear hq
    cases s1 <;> cases s2
    all_goals
      have HZ := Lib.hid (HC.out.trans (by simp; rfl) : cmpZ x y = _)
      go_wp2_with fail
      go_ret2
      rw [HZ.out]
      exact ⟨rfl, HF.out⟩
  · have HQ := Lib.hid hq0
    have q1 : ¬ (q < 0) := by omega
    have q2 : (q == 0) = false := beq_eq_false_iff_ne.2 (by omega)
    clear hq
    cases s1 <;> cases s2
    all_goals
      have HZ := Lib.hid (HC.out.trans (by simp [HQ.out, q1, q2]; rfl) : cmpZ x y = _)
      go_wp2_with fail
      go_ret2
      rw [HZ.out]
      exact ⟨rfl, HF.out⟩
set_option maxRecDepth 100000 in
theorem limb_behind1 (i h l c : Nat) (A : Option Addr) (xs : List Nat) (w : World) {B : Nat} (hb : w.cell? ⟨h, 0, none⟩ = some (.slice A l c)) (h1 : Lim w B A xs) (hl : l = xs.length) (_hlI : (l : Int) ≤ 4096) :
    Calls Try.prog 138 #[.int .i64 (i : Int), .pointer (some ⟨h, 0, none⟩)] w fun e w' => e = .returned (.int .u64 ((xs.getD i 0 : Nat) : Int)) ∧ w = w' := by
  by_cases hi : i < l
  · obtain ⟨ad, rfl, _, hcell⟩ := h1.at_ (k := i) (by omega)
    obtain ⟨x, hx⟩ : ∃ x, xs.getD i 0 = x := ⟨_, rfl⟩
    rw [hx] at hcell ⊢
    have hI : (i : Int) < (l : Int) := by omega
    clear hx hl
    go_enter Try.func138, Try.ntmps138
    go_wp2_with fail
    go_ret
    exact ⟨rfl, rfl⟩
  · have hI : ¬ ((i : Int) < (l : Int)) := by omega
    rw [show xs.getD i 0 = 0 by simp [show xs.length ≤ i by omega]]
    clear hl hi
    go_enter Try.func138, Try.ntmps138
    go_wp2_with fail
    go_ret
    exact ⟨rfl, rfl⟩
set_option maxRecDepth 100000 in
theorem limb_behind (A : Option Addr) (l c : Nat) (w : World) : Calls Try.prog 94 #[.slice A l c] w fun e w' => e = .returned (.func (.func 138) #[] #[.pointer (some ⟨w.heap.size, 0, none⟩)]) ∧ w' = w.alloc (.cells #[.slice A l c] 34) := by
  go_enter Try.func94, Try.ntmps94
  go_wp2_with fail
  go_ret
  exact ⟨rfl, rfl⟩
end Go.Proofs.Ytmnfokapdipcdaa
