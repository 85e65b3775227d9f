import Derived.Test.YtmnfokapdipcdaaLaw18b
import Derived.Test.YtmnfokapdipcdaaLaw18c
import Derived.Test.YtmnfokapdipcdaaTimes2
import Derived.Test.YtmnfokapdipcdaaPick
import Derived.Test.YtmnfokapdipcdaaPlan2
/- The laws of layer 18 without the reference: known. -/
namespace Go.Proofs.Ytmnfokapdipcdaa
open Go.RowKit Go.Deep
set_option maxHeartbeats 1000000 in
set_option maxRecDepth 100000 in
theorem law18_known (v : Value) (x : Raw) (w : World) (h : RawV w v x) :
    Calls Try.prog 42 #[v] w fun e w' => ∃ u z, e = .returned u ∧ IntV w' u z ∧ lc z.natAbs ≤ 12 ∧ Below w.heap.size w w' := by
  obtain ⟨b, A, l, c, rfl, HV⟩ := h.open
  obtain ⟨xb, xs⟩ := x
  have HP := Lib.hid HV.out.parts
  obtain rfl : b = xb := HP.out.1
  clear h
  go_enter Try.func42, Try.ntmps42
  go_wp2_with fail
  obtain ⟨W1, g, r, hW, hg, hr, bx, br, G_g, S_W1, hb⟩ := boxH2 w (.bool b) (.slice A l c) (.bool false) (.slice none 0 0)
  rw [hW, hr, hg]
  replace HV := Lib.hid (HV.out.stay hb)
  have B_W1 := Lib.hid (show Since w W1 from hb)
  clear hW hg hr hb
  have HB := Lib.hid B_W1.out
  have HGR := Lib.hid (show w.heap.size ≤ r by have := G_g.out; omega)
  refine (limb_right b A l c xs W1 (Nat.le_refl _) HV.out.parts.2.2.2 HP.out.2.1).mono ?_
  rintro e w2 ⟨rfl, hb⟩
  replace HV := Lib.hid (HV.out.stay hb)
  replace HB := Lib.hid (HB.out.stay hb)
  replace bx := Lib.hid (bx.out.stay hb)
  replace br := Lib.hid (br.out.stay hb)
  clear hb
  have a0 := bx.out.cell0
  have a1 := bx.out.cell1
  have q0 := br.out.cell0
  have q1 := br.out.cell1
  have f0 := br.out.free 0
  have f1 := br.out.free 1
  have h10 := raw_small (x := 10) (by decide) (by rw [W64_eq]; decide)
  rcases hr : rightInt (b, xs) with _ | _
  · clear hr
    go_wp2_with fail
    refine (law18_whole false 10 _ (by rw [W64_eq]; omega)).mono ?_
    rintro e w3 ⟨u, rfl, hu, hb⟩
    obtain ⟨b3, A3, l3, c3, rfl, HU⟩ := hu.open
    clear hu a0 a1 q0 q1 f0 f1
    replace HB := Lib.hid (HB.out.stay hb)
    replace bx := Lib.hid (bx.out.stay hb)
    replace br := Lib.hid (br.out.stay hb)
    clear hb
    have q0 := br.out.cell0
    have q1 := br.out.cell1
    have f0 := br.out.free 0
    have f1 := br.out.free 1
    go_wp2_with fail
    refine bodyPost_ret (results_cell_row rfl _ _ r 36 #[.bool b3, (.slice A3 l3 c3)] (0, 0) _ (by rfl) br.out.store Try.underlying36 rfl (by kernel_rfl)) rfl ?_
    obtain ⟨W5, hW5, -, p5⟩ := br.out.write (.bool b3) (.slice A3 l3 c3)
    rw [hW5]
    have h3 : RawV w3 (.agg #[.bool b3, .slice A3 l3 c3]) (rawOf 10) := by rw [h10]; exact HU.out
    exact ⟨_, 10, rfl, (h3.put p5).int, Nat.le_trans (lc_limb (by rw [W64_eq]; decide)) (by omega), HB.out.put p5 HGR.out⟩
  · by_cases hlen : l ≤ 12
    · obtain ⟨z, hz, hlc, -⟩ := right_int_of (b := b) (xs := xs) HV.out.parts.2.2.2.small hr
      have HF := Lib.hid (And.intro hz (show lc z.natAbs ≤ 12 by have h5 : l = xs.length := HP.out.2.1; omega))
      have hlI : (l : Int) ≤ 12 := by omega
      clear hr hz hlc hlen
      go_wp2_with fail
      refine bodyPost_ret (results_cell_row rfl _ _ r 36 #[.bool b, (.slice A l c)] (0, 0) _ (by rfl) br.out.store Try.underlying36 rfl (by kernel_rfl)) rfl ?_
      have h3 : RawV w2 (.agg #[.bool b, .slice A l c]) (rawOf z) := by rw [← HF.out.1]; exact HV.out
      obtain ⟨W5, hW5, -, p5⟩ := br.out.write (.bool b) (.slice A l c)
      rw [hW5]
      exact ⟨_, z, rfl, (h3.put p5).int, HF.out.2, HB.out.put p5 HGR.out⟩
    · have hlI : ¬ (l : Int) ≤ 12 := by omega
      clear hr hlen
      go_wp2_with fail
      refine (law18_whole false 10 _ (by rw [W64_eq]; omega)).mono ?_
      rintro e w3 ⟨u, rfl, hu, hb⟩
      obtain ⟨b3, A3, l3, c3, rfl, HU⟩ := hu.open
      clear hu a0 a1 q0 q1 f0 f1
      replace HB := Lib.hid (HB.out.stay hb)
      replace bx := Lib.hid (bx.out.stay hb)
      replace br := Lib.hid (br.out.stay hb)
      clear hb
      have q0 := br.out.cell0
      have q1 := br.out.cell1
      have f0 := br.out.free 0
      have f1 := br.out.free 1
      go_wp2_with fail
      refine bodyPost_ret (results_cell_row rfl _ _ r 36 #[.bool b3, (.slice A3 l3 c3)] (0, 0) _ (by rfl) br.out.store Try.underlying36 rfl (by kernel_rfl)) rfl ?_
      obtain ⟨W5, hW5, -, p5⟩ := br.out.write (.bool b3) (.slice A3 l3 c3)
      rw [hW5]
      have h3 : RawV w3 (.agg #[.bool b3, .slice A3 l3 c3]) (rawOf 10) := by rw [h10]; exact HU.out
      exact ⟨_, 10, rfl, (h3.put p5).int, Nat.le_trans (lc_limb (by rw [W64_eq]; decide)) (by omega), HB.out.put p5 HGR.out⟩
end Go.Proofs.Ytmnfokapdipcdaa
