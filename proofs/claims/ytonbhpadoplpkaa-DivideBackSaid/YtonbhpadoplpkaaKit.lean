import Derived.Test.YtonbhpadoplpkaaPoly
/- The package rosettekit: SameLimbs, SameInt, SameWholes. -/
namespace Go.Proofs.Ytonbhpadoplpkaa
open Go.RowKit Go.Deep
theorem take_same_succ {xs ys : List Nat} {k : Nat} (h1 : k < xs.length) (h2 : k < ys.length) (h : xs.take k = ys.take k) (e : xs.getD k 0 = ys.getD k 0) : xs.take (k + 1) = ys.take (k + 1) := by
  rw [List.take_succ_eq_append_getElem h1, List.take_succ_eq_append_getElem h2, h]
  congr 2
  simpa [h1, h2] using e
set_option maxRecDepth 100000 in
theorem kit_limbs (A1 A2 : Option Addr) (l1 l2 c1 c2 : Nat) (xs ys : List Nat) (w : World) {B1 B2 : Nat} (h1 : Lim w B1 A1 xs) (h2 : Lim w B2 A2 ys) (e1 : l1 = xs.length) (e2 : l2 = ys.length) (hl : (l1 : Int) ≤ 1099511627776) :
    Calls Try.prog 40 #[.slice A1 l1 c1, .slice A2 l2 c2] w fun e w' => e = .returned (.bool (decide (xs = ys))) ∧ ∃ q, w' = w.drewN q := by
  by_cases hll : l1 = l2
  · subst hll
    have E1 := Lib.hid e1
    have E2 := Lib.hid e2
    clear e1 e2
    go_enter Try.func40, Try.ntmps40
    go_wp2_with fail
    go_loopw [5] (fun t5 wr => ∃ k : Nat, k ≤ l1 ∧ t5 = .int .i64 (k : Int) ∧ xs.take k = ys.take k ∧ ∃ q, wr = w.drewN q) (fun t5 _ => l1 - (intOf t5).toNat)
    case atStart => exact ⟨0, by omega, rfl, rfl, 0, rfl⟩
    case round =>
      obtain ⟨k, hk, rfl, htk, q, rfl⟩ := hrel
      have HT := Lib.hid htk
      clear htk
      by_cases hlt : k < l1
      · have K1 := Lib.hid (show k < xs.length by rw [← E1.out]; exact hlt)
        have K2 := Lib.hid (show k < ys.length by rw [← E2.out]; exact hlt)
        obtain ⟨a1, rfl, _, hc1⟩ := h1.at_ K1.out
        obtain ⟨a2, rfl, _, hc2⟩ := h2.at_ K2.out
        obtain ⟨x, hx⟩ : ∃ x, xs.getD k 0 = x := ⟨_, rfl⟩
        obtain ⟨y, hy⟩ : ∃ y, ys.getD k 0 = y := ⟨_, rfl⟩
        rw [hx] at hc1
        rw [hy] at hc2
        have HX := Lib.hid hx
        have HY := Lib.hid hy
        have hkI : (k : Int) < (l1 : Int) := by omega
        clear hx hy
        by_cases hxy : x = y
        · have t1 : ((x : Int) != (y : Int)) = false := by rw [bne_eq_false_iff_eq]; omega
          have HS := Lib.hid (take_same_succ K1.out K2.out HT.out (by rw [HX.out, HY.out, hxy]))
          clear hxy
          go_wp2_with fail
          go_quiet (fail)
          go_wp2_with fail
          exact ⟨⟨k + 1, by omega, by go_num, HS.out, _, rfl⟩, by simp [intOf]; omega⟩
        · have t1 : ((x : Int) != (y : Int)) = true := by rw [bne_iff_ne]; omega
          have HE := Lib.hid (show decide (xs = ys) = false from decide_eq_false (fun e => hxy (by rw [← HX.out, ← HY.out, e])))
          clear hxy
          go_wp2_with fail
          go_quiet (fail)
          go_wp2_with fail
          go_ret
          exact ⟨by rw [HE.out]; rfl, by rw [World.drewN_drewN]; exact ⟨_, rfl⟩⟩
      · obtain rfl : k = l1 := by omega
        have HE := Lib.hid (show decide (xs = ys) = true from decide_eq_true (by
          have h := HT.out
          rwa [List.take_of_length_le (by rw [← E1.out]; exact Nat.le_refl _), List.take_of_length_le (by rw [← E2.out]; exact Nat.le_refl _)] at h))
        go_wp2_with fail
        go_ret
        exact ⟨by rw [HE.out]; rfl, q, rfl⟩
  · have t1 : ((l1 : Int) != (l2 : Int)) = true := by rw [bne_iff_ne]; omega
    have HE := Lib.hid (show decide (xs = ys) = false from decide_eq_false (fun e => hll (by rw [e1, e2, e])))
    clear hll e1 e2
    go_enter Try.func40, Try.ntmps40
    go_wp2_with fail
    go_ret
    exact ⟨by rw [HE.out]; rfl, 0, rfl⟩
set_option maxRecDepth 100000 in
theorem kit_int (b1 b2 : Bool) (A1 A2 : Option Addr) (l1 l2 c1 c2 : Nat) (xs ys : List Nat) (w : World) {B1 B2 : Nat} (hB1 : B1 ≤ w.heap.size) (hB2 : B2 ≤ w.heap.size) (h1 : Lim w B1 A1 xs) (h2 : Lim w B2 A2 ys) (e1 : l1 = xs.length) (e2 : l2 = ys.length) (hl : (l1 : Int) ≤ 1099511627776) :
    Calls Try.prog 19 #[.agg #[.bool b1, .slice A1 l1 c1], .agg #[.bool b2, .slice A2 l2 c2]] w fun e w' => e = .returned (.bool (decide (((b1, xs) : Raw) = (b2, ys)))) ∧ Below w.heap.size w w' := by
  have E1 := Lib.hid e1
  have E2 := Lib.hid e2
  have HL := Lib.hid hl
  clear e1 e2 hl
  by_cases hb : b1 = b2
  · subst hb
    have HE := Lib.hid (show decide (((b1, xs) : Raw) = (b1, ys)) = decide (xs = ys) by simp)
    have tb : (b1 == b1) = true := by cases b1 <;> rfl
    go_enter Try.func19, Try.ntmps19
    go_wp2_with fail
    have hbw : Below w.heap.size w ((w.alloc (.cells #[.bool b1, .slice A1 l1 c1] 24)).alloc (.cells #[.bool b1, .slice A2 l2 c2] 24)) := ((Below.refl _ w).alloc (Nat.le_refl _) _).alloc (by simp) _
    refine (kit_limbs A1 A2 l1 l2 c1 c2 xs ys _ (h1.below (hbw.mono hB1)) (h2.below (hbw.mono hB2)) E1.out E2.out HL.out).mono ?_
    rintro e w2 ⟨rfl, q, rfl⟩
    go_wp2_with fail
    go_ret
    exact ⟨by rw [HE.out]; rfl, below_drewN hbw q⟩
  · have HE := Lib.hid (show decide (((b1, xs) : Raw) = (b2, ys)) = false by simp [hb])
    have tb : (b1 == b2) = false := beq_eq_false_iff_ne.2 hb
    clear hb
    go_enter Try.func19, Try.ntmps19
    go_wp2_with fail
    go_ret
    exact ⟨by rw [HE.out]; rfl, ((Below.refl _ w).alloc (Nat.le_refl _) _).alloc (by simp) _⟩
theorem getD_raw_mem {xs : List Raw} {k : Nat} (hk : k < xs.length) : xs.getD k (false, []) ∈ xs := by
  rw [List.getD_eq_getElem?_getD, List.getElem?_eq_getElem hk]
  exact List.getElem_mem hk
theorem take_same_raw {xs ys : List Raw} {k : Nat} (h1 : k < xs.length) (h2 : k < ys.length) (h : xs.take k = ys.take k) (e : xs.getD k (false, []) = ys.getD k (false, [])) : xs.take (k + 1) = ys.take (k + 1) := by
  rw [List.take_succ_eq_append_getElem h1, List.take_succ_eq_append_getElem h2, h]
  congr 2
  simpa [h1, h2] using e
end Go.Proofs.Ytonbhpadoplpkaa
