import Derived.Test.YtonbhpadoplpkaaApp
import Derived.Test.YtonbhpadoplpkaaDig
import Derived.Test.YtonbhpadoplpkaaNat3
/- The package rosetteref00: natural numbers: NatTrim, low, halves, limbs, digit. -/
namespace Go.Proofs.Ytonbhpadoplpkaa
open Go.RowKit Go.Deep
/-- What is left when the noughts on top are cut off. -/
theorem trim_stop {xs : List Nat} {n m : Nat} (hn : n ≤ xs.length) (h : (trimL (xs.take n)).length = m) (hs : n = 0 ∨ xs.getD (n - 1) 0 ≠ 0) : n = m := by
  rcases hs with rfl | hs
  · rw [← h]; simp [trimL]
  · rcases Nat.eq_zero_or_pos n with rfl | hp
    · rw [← h]; simp [trimL]
    · obtain ⟨k, rfl⟩ : ∃ k, n = k + 1 := ⟨n - 1, by omega⟩
      rw [trimL_pos xs k (by omega) (by simpa using hs)] at h
      rw [← h, List.length_take]; omega
set_option maxRecDepth 100000 in
theorem ref_trim (A : Option Addr) (l c : Nat) (xs : List Nat) (w : World) {B : Nat} (h1 : Lim w B A xs) (e1 : l = xs.length) (hc : l ≤ c) (hl : l ≤ 1099511627776) :
    Calls Try.prog 82 #[.slice A l c] w fun e w' => ∃ v, e = .returned v ∧ Own w' w.heap.size v (limbs (val xs)) ∧ Below w.heap.size w w' := by
  have HL := Lib.hid e1
  have hcI : (l : Int) ≤ (c : Int) := by omega
  have hlI : (l : Int) ≤ 1099511627776 := by omega
  obtain ⟨m, hm⟩ : ∃ m, (trimL xs).length = m := ⟨_, rfl⟩
  have HM := Lib.hid hm
  have hml : m ≤ l := by rw [← hm, e1]; exact length_trimL_le xs
  have HR := Lib.hid (show limbs (val xs) = xs.take m by rw [← trimL_eq h1.small, ← hm]; exact trimL_prefix xs)
  clear e1 hc hl hm
  go_enter Try.func82, Try.ntmps82
  go_upto_block 0 with (fail)
  go_cut [3] (fun t3 wx => w = wx ∧ t3 = .int .i64 (m : Int))
  case first =>
    go_wp2_with fail
    go_loopg [3] l (fun gk t3 wr => gk ≤ l ∧ w = wr ∧ t3 = .int .i64 (gk : Int) ∧ (trimL (xs.take gk)).length = m)
    case atStart => exact ⟨Nat.le_refl l, rfl, rfl, by rw [HL.out, List.take_length]; exact HM.out⟩
    case round =>
      obtain ⟨hk, rfl, rfl, htop⟩ := hrel
      have HT := Lib.hid htop
      clear htop
      by_cases h0 : gk = 0
      · subst h0
        have HE := Lib.hid (trim_stop (Nat.zero_le _) HT.out (.inl rfl))
        go_wp2_with fail
        go_meet
        rw [← HE.out]
        exact ⟨rfl, rfl⟩
      · obtain ⟨q, rfl⟩ : ∃ q, gk = q + 1 := ⟨gk - 1, by omega⟩
        have hqx : q < xs.length := by rw [← HL.out]; omega
        obtain ⟨ad, rfl, _, hc⟩ := h1.at_ hqx
        obtain ⟨x, hx⟩ : ∃ x, xs.getD q 0 = x := ⟨_, rfl⟩
        rw [hx] at hc
        have hqI : ((q + 1 : Nat) : Int) - 1 = (q : Int) := by omega
        have hq1 : (0 : Int) < ((q + 1 : Nat) : Int) := by omega
        have hql : (q : Int) < (l : Int) := by omega
        have hqlN : q < l := by omega
        have HQ := Lib.hid hqx
        have HX := Lib.hid hx
        obtain ⟨k, hkk⟩ : ∃ k, q + 1 = k := ⟨_, rfl⟩
        rw [hkk] at hk hqI hq1 ⊢
        have HK := Lib.hid hkk
        clear h0 hkk hqx hx
        by_cases hx0 : x = 0
        · subst hx0
          have HT2 := Lib.hid (show (trimL (xs.take q)).length = m by rw [← HT.out, trimL_zero xs q HQ.out HX.out])
          go_wp2_with fail
          go_roundg q
          case measure => have := HK.out; omega
          case rel => exact ⟨by omega, rfl, rfl, HT2.out⟩
        · have HE := Lib.hid (trim_stop (by rw [← HL.out]; omega) HT.out (.inr (by rw [Nat.add_sub_cancel, HX.out]; exact hx0)))
          have tx : ((x : Int) == 0) = false := beq_eq_false_iff_ne.2 (by omega)
          clear hx0
          go_wp2_with fail
          go_meet
          rw [← HE.out, HK.out]
          exact ⟨rfl, rfl⟩
  case rest =>
    obtain ⟨rfl, rfl⟩ := hcut
    have hmI : (m : Int) ≤ (l : Int) := by omega
    have HML := Lib.hid (show m = (xs.take m).length by rw [List.length_take, ← HL.out]; omega)
    have HLE := Lib.hid (show ([] : List Nat).length + (xs.take m).length ≤ 17592186044416 by rw [← HML.out]; simp; omega)
    have hlt := h1.take m
    go_wp2_with (at_builtin; refine append_lim (w0 := w) w.heap.size rfl _ _ rfl _ [] A m c (xs.take m) (by rfl) (by rfl) HML.out hlt (Own.nil _ _) (Below.refl _ _) (Nat.le_refl _) HLE.out fun v1 w1 hown hbel _ _ => ?_)
    obtain ⟨A1, k1, c1, rfl⟩ := hown.slice
    go_wp2_with fail
    go_ret
    rw [HR.out]
    exact ⟨_, rfl, by simpa using hown, hbel⟩
section
variable {ops : Array Oper} {rest : List Oper} {o : Oper} {a : Act} {Q : Exit → Act → World → Prop}
/-- append(v, x, y) -/
theorem append_two {w0 W : World} (base : Nat) (hgd : o.guard = none) (s x : Operand)
    (ho : o.op = .call { callee := .builtin .append, args := #[s, x], argTypes := #[22, 22] })
    (v : Value) (xs : List Nat) (y z : Nat) (hs : a.eval s = v) (hx : a.eval x = .slice (some ⟨W.heap.size, 0, none⟩) 2 2) (hy : y < W64) (hz : z < W64)
    (HO : Own W base v xs) (HB : Below base w0 W) (hbase : base ≤ W.heap.size) (hl : xs.length + 2 ≤ 17592186044416)
    (h : ∀ v1 w1, Own w1 base v1 (xs ++ [y, z]) → Below base w0 w1 → W.grownBy w1 v.ownBlock → wpList Try.prog ops Q rest (a.put o.dst v1) w1) :
    wpList Try.prog ops Q (o :: rest) a (W.alloc (.cells #[.int .u64 (y : Int), .int .u64 (z : Int)] 53)) := by
  refine append_any (w0 := w0) base hgd s x ho v xs ⟨W.heap.size, 0, none⟩ 2 2 [y, z] hs hx rfl (fun j hj => ?_) (Small.cons hy (Small.one hz)) (HO.alloc _) (HB.alloc hbase _) (by simp; omega) (by simpa using hl) ?_
  · have e : j = 0 ∨ j = 1 := by simp at hj; omega
    rw [add_plain, cell_of_row _ _ _ _ _ (0, 0) (heap_alloc_new W _)]
    rcases e with rfl | rfl <;> rfl
  · intro v1 w1 h1 h2 h3 _
    exact h v1 w1 h1 h2 (grownBy_trans ((grownBy_of_below ((Below.refl _ W).alloc (Nat.le_refl _) _) _)) h3)
end
end Go.Proofs.Ytonbhpadoplpkaa
/- The package rosetteref00: natural numbers: digit, limbs, NatBits, NatCmp. -/
namespace Go.Proofs.Ytonbhpadoplpkaa
open Go.RowKit Go.Deep
end Go.Proofs.Ytonbhpadoplpkaa
