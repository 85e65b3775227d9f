import Derived.Test.YtonbhpadoplpkaaLent
import Derived.Test.YtonbhpadoplpkaaRef11
import Derived.Test.YtonbhpadoplpkaaLimb3
import Derived.Test.YtonbhpadoplpkaaDiv5
/- The package rosettekit: whole numbers. -/
namespace Go.Proofs.Ytonbhpadoplpkaa
open Go.RowKit Go.Deep
set_option maxRecDepth 100000 in
theorem kit_of (n : Int) (w : World) (h1 : -9223372036854775808 ≤ n) (h2 : n < 9223372036854775808) :
    Calls Try.prog 49 #[.int .i64 n] w fun e w' => ∃ v', e = .returned v' ∧ IntV w' v' n ∧ Below w.heap.size w w' := by
  by_cases hn : n < 0
  · obtain ⟨k, hk⟩ : ∃ k : Nat, n = -(k : Int) := ⟨n.natAbs, by omega⟩
    have HK := Lib.hid hk
    obtain ⟨r, e1, e2⟩ := wrap_minus (k := k) (by omega) (by omega)
    rw [← hk] at e1
    have HW := Lib.hid (show k < W64 by rw [W64_eq]; omega)
    have HSG := Lib.hid (show signed true k = n ∧ decide (n < 0) = true from ⟨by rw [hk]; rfl, decide_eq_true hn⟩)
    clear hk h1 h2
    go_enter Try.func49, Try.ntmps49
    go_wp2_with fail
    obtain ⟨W0, g, hW, hg, bx, G_g, S_W0, hb⟩ := boxH w (.bool false) (.slice none 0 0)
    rw [hW, hg]

    have B_W0 := Lib.hid (show Since w W0 from hb)
    clear hW hg hb
    refine (ref_of k W0 HW.out).mono ?_
    rintro e w1 ⟨v, rfl, ho, hb⟩
    obtain ⟨A, l, c, rfl, HE, HC, HLM, HN⟩ := (NatAt.of_own ho).open
    replace bx := Lib.hid (bx.out.stay hb)
    replace B_W0 := Lib.hid (B_W0.out.stay hb)
    clear ho hb
    have fr := bx.out.free
    have a0 := bx.out.cell0
    have a1 := bx.out.cell1
    have HGG := Lib.hid (show w.heap.size ≤ g by have := G_g.out; omega)
    go_wp2_with fail
    refine bodyPost_ret (results_cell_row rfl _ _ g 24 #[.bool true, (.slice A l c)] (0, 0) _ (by rfl) bx.out.store Try.underlying24 rfl (by kernel_rfl)) rfl ?_
    obtain ⟨W2, hW2, bx', p⟩ := bx.out.write (.bool true) (.slice A l c)
    rw [hW2]
    exact ⟨_, rfl, ⟨A, l, c, by rw [HSG.out.2], by rw [← HSG.out.1, signed_natAbs]; exact HE.out, HC.out, by rw [← HSG.out.1, signed_natAbs]; exact HLM.out.put p⟩, B_W0.out.put p HGG.out⟩
  · obtain ⟨k, hk⟩ : ∃ k : Nat, n = (k : Int) := ⟨n.natAbs, by omega⟩
    have e1 := wrap_plus (k := k) (by omega)
    subst hk
    have HW := Lib.hid (show k < W64 by rw [W64_eq]; omega)
    have HSG := Lib.hid (show signed false k = (k : Int) ∧ decide ((k : Int) < 0) = false from ⟨rfl, decide_eq_false hn⟩)
    clear h1 h2
    go_enter Try.func49, Try.ntmps49
    go_wp2_with fail
    obtain ⟨W0, g, hW, hg, bx, G_g, S_W0, hb⟩ := boxH w (.bool false) (.slice none 0 0)
    rw [hW, hg]

    have B_W0 := Lib.hid (show Since w W0 from hb)
    clear hW hg hb
    refine (ref_of k W0 HW.out).mono ?_
    rintro e w1 ⟨v, rfl, ho, hb⟩
    obtain ⟨A, l, c, rfl, HE, HC, HLM, HN⟩ := (NatAt.of_own ho).open
    replace bx := Lib.hid (bx.out.stay hb)
    replace B_W0 := Lib.hid (B_W0.out.stay hb)
    clear ho hb
    have fr := bx.out.free
    have a0 := bx.out.cell0
    have a1 := bx.out.cell1
    have HGG := Lib.hid (show w.heap.size ≤ g by have := G_g.out; omega)
    go_wp2_with fail
    refine bodyPost_ret (results_cell_row rfl _ _ g 24 #[.bool false, (.slice A l c)] (0, 0) _ (by rfl) bx.out.store Try.underlying24 rfl (by kernel_rfl)) rfl ?_
    obtain ⟨W2, hW2, bx', p⟩ := bx.out.write (.bool false) (.slice A l c)
    rw [hW2]
    exact ⟨_, rfl, ⟨A, l, c, by rw [HSG.out.2], by rw [← HSG.out.1, signed_natAbs]; exact HE.out, HC.out, by rw [← HSG.out.1, signed_natAbs]; exact HLM.out.put p⟩, B_W0.out.put p HGG.out⟩
theorem results_recs {fn : Func} {p q : Tmp} {ty : TypeId} (h : fn.results = #[.cell p ty, .cell q ty]) (tmps : Array Value) (P : Program) (w : World) :
    (results fn tmps).run P w =
      ((asAddr (tmps.getD p undef)).run P w).andThen fun a w₁ => ((loadVar ty a).run P w₁).andThen fun v w₂ => ((asAddr (tmps.getD q undef)).run P w₂).andThen fun b w₃ => ((loadVar ty b).run P w₃).andThen fun x w₄ => .ok (.tuple #[v, x]) w₄ := by
  simp only [results, h]
  simp [Sem.run_bind, Result.andThen]
theorem two_stores {w : World} {r q : Nat} {b1 b2 : Bool} {A1 A2 : Option Addr} {l1 c1 l2 c2 : Nat} (h1 : Box2 w r (.bool b1) (.slice A1 l1 c1)) (h2 : Box2 w q (.bool b2) (.slice A2 l2 c2)) (hne : r ≠ q) (x y x' y' : Value) :
    ∃ W, ((((w.setCell ⟨r, 0, none⟩ x).setCell ⟨r, 1, none⟩ y).setCell ⟨q, 0, none⟩ x').setCell ⟨q, 1, none⟩ y') = W ∧ Box2 W r x y ∧ Box2 W q x' y' ∧ (∀ {v : Value} {z : Int}, IntV w v z → IntV W v z) ∧ (∀ {w0 : World}, Since w0 w → w0.heap.size ≤ r → w0.heap.size ≤ q → Since w0 W) := by
  obtain ⟨Wa, hWa, ba, pa⟩ := h1.write x y
  have bqa := h2.put pa (fun e => hne e.symm)
  obtain ⟨Wb, hWb, bb, pb⟩ := bqa.write x' y'
  rw [hWa, hWb]
  exact ⟨Wb, rfl, ba.out.put pb hne, bb.out, fun h => (h.put pa).put pb, fun h k1 k2 => (h.put pa k1).put pb k2⟩
end Go.Proofs.Ytonbhpadoplpkaa
