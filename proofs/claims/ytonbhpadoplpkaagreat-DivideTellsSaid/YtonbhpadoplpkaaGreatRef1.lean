import Derived.Test.YtonbhpadoplpkaaGreatApp
import Derived.Test.YtonbhpadoplpkaaGreatDig
import Derived.Test.YtonbhpadoplpkaaGreatNat3
/- The package rosetteref00: natural numbers: NatTrim, low, halves, limbs, digit. -/
namespace Go.Proofs.YtonbhpadoplpkaaGreat
open Go.RowKit Go.Deep
/-- What is left when the noughts on top are cut off. -/
theorem trim_stop {xs : List Nat} {n m : Nat} (hn : n ≤ xs.length) (h : (trimL (xs.take n)).length = m) (hs : n = 0 ∨ xs.getD (n - 1) 0 ≠ 0) : n = m := by
  rcases hs with rfl | hs
  · rw [← h]; simp [trimL]
  · rcases Nat.eq_zero_or_pos n with rfl | hp
    · rw [← h]; simp [trimL]
    · obtain ⟨k, rfl⟩ : ∃ k, n = k + 1 := ⟨n - 1, by omega⟩
      rw [trimL_pos xs k (by omega) (by simpa using hs)] at h
      rw [← h, List.length_take]; omega
set_option maxRecDepth 100000 in
theorem ref_trim (A : Option Addr) (l c : Nat) (xs : List Nat) (w : World) {B : Nat} (h1 : Lim w B A xs) (e1 : l = xs.length) (hc : l ≤ c) (hl : l ≤ 1099511627776) :
    Calls Tryz.prog 97 #[.slice A l c] w fun e w' => ∃ v, e = .returned v ∧ Own w' w.heap.size v (limbs (val xs)) ∧ Below w.heap.size w w' := by
  have HL := Lib.hid e1
  have hcI : (l : Int) ≤ (c : Int) := by omega
  have hlI : (l : Int) ≤ 1099511627776 := by omega
  obtain ⟨m, hm⟩ : ∃ m, (trimL xs).length = m := ⟨_, rfl⟩
  have HM := Lib.hid hm
  have hml : m ≤ l := by rw [← hm, e1]; exact length_trimL_le xs
  have HR := Lib.hid (show limbs (val xs) = xs.take m by rw [← trimL_eq h1.small, ← hm]; exact trimL_prefix xs)
  clear e1 hc hl hm
  go_enter Tryz.func97, Tryz.ntmps97
  go_upto_block 0 with (fail)
  go_cut [3] (fun t3 wx => w = wx ∧ t3 = .int .i64 (m : Int))
  case first =>
    go_wp2_with fail
    go_loopg [3] l (fun gk t3 wr => gk ≤ l ∧ w = wr ∧ t3 = .int .i64 (gk : Int) ∧ (trimL (xs.take gk)).length = m)
    case atStart => exact ⟨Nat.le_refl l, rfl, rfl, by rw [HL.out, List.take_length]; exact HM.out⟩
    case round =>
      obtain ⟨hk, rfl, rfl, htop⟩ := hrel
      have HT := Lib.hid htop
      clear htop
      by_cases h0 : gk = 0
      · subst h0
        have HE := Lib.hid (trim_stop (Nat.zero_le _) HT.out (.inl rfl))
        go_wp2_with fail
        go_meet
        rw [← HE.out]
        exact ⟨rfl, rfl⟩
      · obtain ⟨q, rfl⟩ : ∃ q, gk = q + 1 := ⟨gk - 1, by omega⟩
        have hqx : q < xs.length := by rw [← HL.out]; omega
        obtain ⟨ad, rfl, _, hc⟩ := h1.at_ hqx
        obtain ⟨x, hx⟩ : ∃ x, xs.getD q 0 = x := ⟨_, rfl⟩
        rw [hx] at hc
        have hqI : ((q + 1 : Nat) : Int) - 1 = (q : Int) := by omega
        have hq1 : (0 : Int) < ((q + 1 : Nat) : Int) := by omega
        have hql : (q : Int) < (l : Int) := by omega
        have hqlN : q < l := by omega
        have HQ := Lib.hid hqx
        have HX := Lib.hid hx
        obtain ⟨k, hkk⟩ : ∃ k, q + 1 = k := ⟨_, rfl⟩
        rw [hkk] at hk hqI hq1 ⊢
        have HK := Lib.hid hkk
        clear h0 hkk hqx hx
        by_cases hx0 : x = 0
        · subst hx0
          have HT2 := Lib.hid (show (trimL (xs.take q)).length = m by rw [← HT.out, trimL_zero xs q HQ.out HX.out])
          go_wp2_with fail
          go_roundg q
          case measure => have := HK.out; omega
          case rel => exact ⟨by omega, rfl, rfl, HT2.out⟩
        · have HE := Lib.hid (trim_stop (by rw [← HL.out]; omega) HT.out (.inr (by rw [Nat.add_sub_cancel, HX.out]; exact hx0)))
          have tx : ((x : Int) == 0) = false := beq_eq_false_iff_ne.2 (by omega)
          clear hx0
          go_wp2_with fail
          go_meet
          rw [← HE.out, HK.out]
          exact ⟨rfl, rfl⟩
  case rest =>
    obtain ⟨rfl, rfl⟩ := hcut
    have hmI : (m : Int) ≤ (l : Int) := by omega
    have HML := Lib.hid (show m = (xs.take m).length by rw [List.length_take, ← HL.out]; omega)
    have HLE := Lib.hid (show ([] : List Nat).length + (xs.take m).length ≤ 17592186044416 by rw [← HML.out]; simp; omega)
    have hlt := h1.take m
    go_wp2_with (at_builtin; refine append_lim (w0 := w) w.heap.size rfl _ _ rfl _ [] A m c (xs.take m) (by rfl) (by rfl) HML.out hlt (Own.nil _ _) (Below.refl _ _) (Nat.le_refl _) HLE.out fun v1 w1 hown hbel _ _ => ?_)
    obtain ⟨A1, k1, c1, rfl⟩ := hown.slice
    go_wp2_with fail
    go_ret
    rw [HR.out]
    exact ⟨_, rfl, by simpa using hown, hbel⟩
set_option maxRecDepth 100000 in
theorem ref_low (A : Option Addr) (l c : Nat) (xs : List Nat) (w : World) {B : Nat} (h1 : Lim w B A xs) (e1 : l = xs.length) (hc : l ≤ c) (hl : l ≤ 1099511627776) :
    Calls Tryz.prog 135 #[.slice A l c] w fun e w' => e = .returned (.slice A (trimL xs).length c) ∧ w = w' := by
  have HL := Lib.hid e1
  have hcI : (l : Int) ≤ (c : Int) := by omega
  have hlI : (l : Int) ≤ 1099511627776 := by omega
  obtain ⟨m, hm⟩ : ∃ m, (trimL xs).length = m := ⟨_, rfl⟩
  have HM := Lib.hid hm
  have hml : m ≤ l := by rw [← hm, e1]; exact length_trimL_le xs
  rw [hm]
  clear e1 hc hl hm
  go_enter Tryz.func135, Tryz.ntmps135
  go_upto_block 0 with (fail)
  go_cut [3] (fun t3 wx => w = wx ∧ t3 = .int .i64 (m : Int))
  case first =>
    go_wp2_with fail
    go_loopg [3] l (fun gk t3 wr => gk ≤ l ∧ w = wr ∧ t3 = .int .i64 (gk : Int) ∧ (trimL (xs.take gk)).length = m)
    case atStart => exact ⟨Nat.le_refl l, rfl, rfl, by rw [HL.out, List.take_length]; exact HM.out⟩
    case round =>
      obtain ⟨hk, rfl, rfl, htop⟩ := hrel
      have HT := Lib.hid htop
      clear htop
      by_cases h0 : gk = 0
      · subst h0
        have HE := Lib.hid (trim_stop (Nat.zero_le _) HT.out (.inl rfl))
        go_wp2_with fail
        go_meet
        rw [← HE.out]
        exact ⟨rfl, rfl⟩
      · obtain ⟨q, rfl⟩ : ∃ q, gk = q + 1 := ⟨gk - 1, by omega⟩
        have hqx : q < xs.length := by rw [← HL.out]; omega
        obtain ⟨ad, rfl, _, hc⟩ := h1.at_ hqx
        obtain ⟨x, hx⟩ : ∃ x, xs.getD q 0 = x := ⟨_, rfl⟩
        rw [hx] at hc
        have hqI : ((q + 1 : Nat) : Int) - 1 = (q : Int) := by omega
        have hq1 : (0 : Int) < ((q + 1 : Nat) : Int) := by omega
        have hql : (q : Int) < (l : Int) := by omega
        have hqlN : q < l := by omega
        have HQ := Lib.hid hqx
        have HX := Lib.hid hx
        obtain ⟨k, hkk⟩ : ∃ k, q + 1 = k := ⟨_, rfl⟩
        rw [hkk] at hk hqI hq1 ⊢
        have HK := Lib.hid hkk
        clear h0 hkk hqx hx
        by_cases hx0 : x = 0
        · subst hx0
          have HT2 := Lib.hid (show (trimL (xs.take q)).length = m by rw [← HT.out, trimL_zero xs q HQ.out HX.out])
          go_wp2_with fail
          go_roundg q
          case measure => have := HK.out; omega
          case rel => exact ⟨by omega, rfl, rfl, HT2.out⟩
        · have HE := Lib.hid (trim_stop (by rw [← HL.out]; omega) HT.out (.inr (by rw [Nat.add_sub_cancel, HX.out]; exact hx0)))
          have tx : ((x : Int) == 0) = false := beq_eq_false_iff_ne.2 (by omega)
          clear hx0
          go_wp2_with fail
          go_meet
          rw [← HE.out, HK.out]
          exact ⟨rfl, rfl⟩
  case rest =>
    obtain ⟨rfl, rfl⟩ := hcut
    have hmI : (m : Int) ≤ (l : Int) := by omega
    go_wp2_with fail
    go_ret
    exact ⟨rfl, rfl⟩
section
variable {ops : Array Oper} {rest : List Oper} {o : Oper} {a : Act} {Q : Exit → Act → World → Prop}
/-- append(v, x, y) -/
theorem append_two {w0 W : World} (base : Nat) (hgd : o.guard = none) (s x : Operand)
    (ho : o.op = .call { callee := .builtin .append, args := #[s, x], argTypes := #[22, 22] })
    (v : Value) (xs : List Nat) (y z : Nat) (hs : a.eval s = v) (hx : a.eval x = .slice (some ⟨W.heap.size, 0, none⟩) 2 2) (hy : y < W64) (hz : z < W64)
    (HO : Own W base v xs) (HB : Below base w0 W) (hbase : base ≤ W.heap.size) (hl : xs.length + 2 ≤ 17592186044416)
    (h : ∀ v1 w1, Own w1 base v1 (xs ++ [y, z]) → Below base w0 w1 → W.grownBy w1 v.ownBlock → wpList Tryz.prog ops Q rest (a.put o.dst v1) w1) :
    wpList Tryz.prog ops Q (o :: rest) a (W.alloc (.cells #[.int .u64 (y : Int), .int .u64 (z : Int)] 85)) := by
  refine append_any (w0 := w0) base hgd s x ho v xs ⟨W.heap.size, 0, none⟩ 2 2 [y, z] hs hx rfl (fun j hj => ?_) (Small.cons hy (Small.one hz)) (HO.alloc _) (HB.alloc hbase _) (by simp; omega) (by simpa using hl) ?_
  · have e : j = 0 ∨ j = 1 := by simp at hj; omega
    rw [add_plain, cell_of_row _ _ _ _ _ (0, 0) (heap_alloc_new W _)]
    rcases e with rfl | rfl <;> rfl
  · intro v1 w1 h1 h2 h3 _
    exact h v1 w1 h1 h2 (grownBy_trans ((grownBy_of_below ((Below.refl _ W).alloc (Nat.le_refl _) _) _)) h3)
end
set_option maxRecDepth 100000 in
theorem ref_halves (A : Option Addr) (l c : Nat) (xs : List Nat) (w : World) (h1 : Lim w w.heap.size A xs) (e1 : l = xs.length) (hl : l ≤ 549755813888) :
    Calls Tryz.prog 96 #[.slice A l c] w fun e w' => ∃ v, e = .returned v ∧ Own w' w.heap.size v (dig xs) ∧ Below w.heap.size w w' := by
  have HL := Lib.hid e1
  have HL2 := Lib.hid hl
  have hlI : (l : Int) ≤ 549755813888 := by omega
  clear e1 hl
  go_enter Tryz.func96, Tryz.ntmps96
  go_wp2_with fail
  go_loopw [3, 4] (fun t3 t4 wr => ∃ k : Nat, k ≤ l ∧ t4 = .int .i64 (k : Int) ∧ Own wr w.heap.size t3 (hv (xs.take k)) ∧ Below w.heap.size w wr) (fun _ t4 _ => l - (intOf t4).toNat)
  case atStart => exact ⟨0, by omega, rfl, by rw [List.take_zero]; exact Own.nil _ _, Below.refl _ _⟩
  case round =>
    obtain ⟨k, hk, rfl, hown, hbel⟩ := hrel
    obtain ⟨A3, l3, c3, rfl⟩ := hown.slice
    by_cases hlt : k < l
    · have HK := Lib.hid (show k < xs.length by rw [← HL.out]; exact hlt)
      obtain ⟨ad, rfl, _, hc⟩ := (h1.below hbel).at_ HK.out
      obtain ⟨x, hx⟩ : ∃ x, xs.getD k 0 = x := ⟨_, rfl⟩
      have hxs : x < W64 := hx ▸ h1.small.getD k
      rw [hx] at hc
      have hkI : (k : Int) < (l : Int) := by omega
      obtain ⟨y, hy⟩ : ∃ y, x % 4294967296 = y := ⟨_, rfl⟩
      obtain ⟨z, hz⟩ : ∃ z, x / 4294967296 = z := ⟨_, rfl⟩
      have hyI : (x : Int) % 4294967296 = (y : Int) := by omega
      have hzI : (x : Int) / 4294967296 = (z : Int) := by omega
      have HS := Lib.hid (show hv (xs.take (k + 1)) = hv (xs.take k) ++ [y, z] by rw [hv_take_succ xs k HK.out, hx, W32_eq, hy, hz])
      have r1 := later_cell hc
      have hxW := hxs
      rw [W64_eq] at hxW
      have HM := Lib.hid (show y < W64 by rw [W64_eq]; omega)
      have HD := Lib.hid (show z < W64 by rw [W64_eq]; omega)
      have HLE := Lib.hid (show (hv (xs.take k)).length + 2 ≤ 17592186044416 by rw [hv_length, List.length_take]; have := HL2.out; omega)
      have HX := Lib.hid hxW
      clear hx hxs hxW hc hy hz
      go_wp2_with fail
      have hxI : (x : Int) < 18446744073709551616 := by have := HX.out; omega
      refine wp_region_stages (fun w' => ∃ δ : Later Nix wr, w' = δ.world) [(false, 0), (false, 1), (false, 2), (false, 3), (false, 4), (false, 5), (false, 6), (false, 7), (false, 8), (false, 9), (false, 10), (true, 11)] 12 [.reads [_, _, _, _, _, _, _, _, _, _, _], .loud _] [_, _] (by kernel_rfl) (by kernel_rfl) rfl rfl ?_ ?_
      · exact ⟨⟨_, nix_drawn wr⟩, rfl⟩
      refine wpStages_reads ?_
      repeat (go_big_quiet_step (fail))
      refine wpQuiet_nil ?_
      refine wpStages_loud rfl ?_
      intro K hK
      go_big_op
      have hA : Ext Nix wr ((wr.drewN 1).alloc (.cells #[.int .u64 (y : Int), .int .u64 (z : Int)] 85)) := (nix_drawn wr).later (Ext.of_below ((Below.refl _ _).alloc (Nat.le_refl _) _))
      refine hK _ _ ⟨⟨_, hA⟩, rfl⟩ ?_
      clear hK K hxI
      refine wpStages_nil ?_
      go_wp2_with (at_builtin; refine append_two (w0 := w) w.heap.size rfl _ _ rfl _ (hv (xs.take k)) y z (by rfl) (by rfl) HM.out HD.out (hown.below (below_drewN (Below.refl _ wr) 1)) (below_drewN hbel 1) hbel.size HLE.out ?_)
      intro v1 w1 hown1 hbel1 _
      rw [← HS.out] at hown1
      go_wp2_with fail
      exact ⟨⟨k + 1, by omega, by go_num, hown1, hbel1⟩, by simp [intOf]; omega⟩
    · obtain rfl : k = l := by omega
      rw [List.take_of_length_le (by rw [← HL.out]; exact Nat.le_refl _)] at hown
      obtain ⟨A4, c4, e4, hc4, hlim4, _⟩ := hown.form
      injection e4 with e41 e42 e43
      subst e41 e42 e43
      have HO := Lib.hid hown
      have HLL := Lib.hid (show (hv xs).length ≤ 1099511627776 by rw [hv_length, ← HL.out]; have := HL2.out; omega)
      have HC := Lib.hid hc4
      clear hown hc4
      go_wp2_with fail
      refine (ref_low A3 (hv xs).length c3 (hv xs) wr hlim4 rfl HC.out HLL.out).mono ?_
      rintro e w2 ⟨rfl, rfl⟩
      go_wp2_with fail
      go_ret
      refine ⟨_, rfl, ?_, hbel⟩
      have h2 := HO.out.prefix (length_trimL_le (hv xs))
      rw [← trimL_prefix] at h2
      exact h2
end Go.Proofs.YtonbhpadoplpkaaGreat
/- The package rosetteref00: natural numbers: digit, limbs, NatBits, NatCmp. -/
namespace Go.Proofs.YtonbhpadoplpkaaGreat
open Go.RowKit Go.Deep
set_option maxRecDepth 100000 in
theorem ref_digit (A : Option Addr) (l c i : Nat) (xs : List Nat) (w : World) {B : Nat} (h1 : Lim w B A xs) (e1 : l = xs.length) :
    Calls Tryz.prog 134 #[.slice A l c, .int .i64 (i : Int)] w fun e w' => e = .returned (.int .u64 ((xs.getD i 0 : Nat) : Int)) ∧ w = w' := by
  by_cases hi : i < l
  · obtain ⟨ad, rfl, _, hc⟩ := h1.at_ (show i < xs.length by rw [← e1]; exact hi)
    obtain ⟨x, hx⟩ : ∃ x, xs.getD i 0 = x := ⟨_, rfl⟩
    rw [hx] at hc ⊢
    have hiI : (i : Int) < (l : Int) := by omega
    clear e1 hx
    go_enter Tryz.func134, Tryz.ntmps134
    go_wp2_with fail
    go_ret
    exact ⟨rfl, rfl⟩
  · have hx : xs.getD i 0 = 0 := by simp [show xs[i]? = none from List.getElem?_eq_none (by omega)]
    rw [hx]
    have hiI : (l : Int) ≤ (i : Int) := by omega
    clear e1 hx hi
    go_enter Tryz.func134, Tryz.ntmps134
    go_wp2_with fail
    go_ret
    exact ⟨rfl, rfl⟩
set_option maxRecDepth 100000 in
theorem ref_limbs (A : Option Addr) (l c : Nat) (d : List Nat) (w : World) (h1 : Lim w w.heap.size A d) (ht : Tiny d) (e1 : l = d.length) (hl : l ≤ 1099511627776) :
    Calls Tryz.prog 99 #[.slice A l c] w fun e w' => ∃ v, e = .returned v ∧ Own w' w.heap.size v (limbs (val32 d)) ∧ Below w.heap.size w w' := by
  have HL := Lib.hid e1
  have HL2 := Lib.hid hl
  have hlI : (l : Int) ≤ 1099511627776 := by omega
  have HTiny := Lib.hid ht
  have HSm := Lib.hid h1.small
  clear e1 hl ht
  go_enter Tryz.func99, Tryz.ntmps99
  go_wp2_with fail
  go_loopw [3, 4] (fun t3 t4 wr => ∃ k j : Nat, j = 2 * k ∧ j ≤ l + 1 ∧ t4 = .int .i64 (j : Int) ∧ Own wr w.heap.size t3 (pr (d.take j)) ∧ Below w.heap.size w wr) (fun _ t4 _ => l + 1 - (intOf t4).toNat)
  case atStart => exact ⟨0, 0, rfl, by omega, rfl, by rw [List.take_zero]; exact Own.nil _ _, Below.refl _ _⟩
  case round =>
    obtain ⟨k, j, hjk, hj, rfl, hown, hbel⟩ := hrel
    obtain ⟨A3, l3, c3, rfl⟩ := hown.slice
    have HJ := Lib.hid hjk
    clear hjk
    by_cases hlt : j < l
    · have HK := Lib.hid (show j < d.length by rw [← HL.out]; exact hlt)
      obtain ⟨ad, rfl, hbad, hc⟩ := (h1.below hbel).at_ HK.out
      obtain ⟨x, hx⟩ : ∃ x, d.getD j 0 = x := ⟨_, rfl⟩
      have hx32 : x < 4294967296 := by rw [← W32_eq, ← hx]; exact HTiny.out.getD j
      rw [hx] at hc
      have HX := Lib.hid hx
      have hjI : (j : Int) < (l : Int) := by omega
      have hxW := Lib.hid (show x < W64 by rw [W64_eq]; omega)
      have HLE := Lib.hid (show (pr (d.take j)).length + 1 ≤ 17592186044416 by
        have h2 := pr_length _ (d.take j) (Nat.le_refl _)
        rw [List.length_take] at h2
        have := HL2.out
        omega)
      clear hx
      by_cases hlt2 : j + 1 < l
      · have HK2 := Lib.hid (show j + 1 < d.length by rw [← HL.out]; exact hlt2)
        obtain ⟨ad', e', _, hc2⟩ := (h1.below hbel).at_ HK2.out
        injection e' with e'
        subst e'
        obtain ⟨y, hy⟩ : ∃ y, d.getD (j + 1) 0 = y := ⟨_, rfl⟩
        have hy32 : y < 4294967296 := by rw [← W32_eq, ← hy]; exact HTiny.out.getD (j + 1)
        rw [hy] at hc2
        have hj1I : (j : Int) + 1 < (l : Int) := by omega
        obtain ⟨q, hq⟩ : ∃ q, j + 1 = q := ⟨_, rfl⟩
        have hqI : (j : Int) + 1 = (q : Int) := by omega
        have hqlt : q < l := by omega
        rw [hq] at hc2
        obtain ⟨p, hp⟩ : ∃ p, 4294967296 * y = p := ⟨_, rfl⟩
        obtain ⟨z, hz⟩ : ∃ z, x + p = z := ⟨_, rfl⟩
        have HY := Lib.hid hy
        have HZ := Lib.hid (show z < W64 by rw [W64_eq]; omega)
        have HS := Lib.hid (show pr (d.take (j + 2)) = pr (d.take j) ++ [z] by rw [HJ.out, pr_take_two d k (by rw [← HJ.out]; exact HK2.out), ← HJ.out, HX.out, HY.out, W32_eq, hp, hz])
        have hpI : (4294967296 : Int) * (y : Int) = (p : Int) := by omega
        have hzI : (x : Int) + (p : Int) = (z : Int) := by omega
        have hzB : (z : Int) < 18446744073709551616 := by omega
        have hpB : (p : Int) < 18446744073709551616 := by omega
        clear hq hy hp hz
        go_wp2_with (at_builtin; refine append_one (w0 := w) w.heap.size rfl _ _ rfl _ (pr (d.take j)) z (by rfl) (by rfl) HZ.out hown hbel hbel.size HLE.out ?_)
        intro v1 w1 hown1 hbel1 _
        rw [← HS.out] at hown1
        clear hzB hpB
        go_wp2_with fail
        exact ⟨⟨k + 1, j + 2, by have := HJ.out; omega, by omega, by go_num, hown1, hbel1⟩, by simp [intOf]; omega⟩
      · have hj1I : (l : Int) ≤ (j : Int) + 1 := by omega
        have HS := Lib.hid (show pr (d.take (j + 2)) = pr (d.take j) ++ [x] by rw [List.take_of_length_le (by rw [← HL.out]; omega), pr_take_one d k (by rw [← HL.out, ← HJ.out]; omega), ← HJ.out, HX.out])
        go_wp2_with (at_builtin; refine append_one (w0 := w) w.heap.size rfl _ _ rfl _ (pr (d.take j)) x (by rfl) (by rfl) hxW.out hown hbel hbel.size HLE.out ?_)
        intro v1 w1 hown1 hbel1 _
        rw [← HS.out] at hown1
        go_wp2_with fail
        exact ⟨⟨k + 1, j + 2, by have := HJ.out; omega, by omega, by go_num, hown1, hbel1⟩, by simp [intOf]; omega⟩
    · have hltI : (l : Int) ≤ (j : Int) := by omega
      rw [List.take_of_length_le (by rw [← HL.out]; omega)] at hown
      obtain ⟨A4, c4, e4, hc4, hlim4, _⟩ := hown.form
      injection e4 with e41 e42 e43
      subst e41 e42 e43
      have HLL := Lib.hid (show (pr d).length ≤ 1099511627776 by
        have h2 := pr_length _ d (Nat.le_refl _)
        have := HL2.out
        have := HL.out
        omega)
      have HC := Lib.hid hc4
      clear hown hc4 hlt
      go_wp2_with fail
      refine (ref_trim A3 (pr d).length c3 (pr d) wr hlim4 rfl HC.out HLL.out).mono ?_
      rintro e w2 ⟨v, rfl, ho, hb⟩
      go_wp2_with fail
      go_ret
      rw [val_pr _ d (Nat.le_refl _)] at ho
      exact ⟨v, rfl, ho.mono hbel.size, hbel.trans (hb.mono hbel.size)⟩
set_option maxRecDepth 100000 in
theorem ref_bits (A : Option Addr) (l c : Nat) (xs : List Nat) (w : World) (h1 : Lim w w.heap.size A xs) (e1 : l = xs.length) (hc : l ≤ c) (hl : l ≤ 1099511627776) :
    Calls Tryz.prog 92 #[.slice A l c] w fun e w' => e = .returned (.int .i64 (nbits (val xs) : Nat)) ∧ Below w.heap.size w w' := by
  have HT := Lib.hid (ref_trim A l c xs w h1 e1 hc hl)
  have HLC := Lib.hid (show (limbs (val xs)).length ≤ 1099511627776 from Nat.le_trans (limbs_val_le h1.small) (by omega))
  clear e1 hc hl
  go_enter Tryz.func92, Tryz.ntmps92
  go_wp2_with fail
  refine HT.out.mono ?_
  rintro e w1 ⟨v, rfl, ho, hb⟩
  obtain ⟨A1, c1, rfl, hc1, hlim1, _⟩ := ho.form
  by_cases h0 : val xs = 0
  · have HE := Lib.hid (show nbits (val xs) = 0 by rw [h0]; rfl)
    rw [show limbs (val xs) = [] by rw [h0, limbs_zero]]
    clear h0
    go_wp2_with fail
    go_ret
    rw [HE.out]
    exact ⟨rfl, hb⟩
  · obtain ⟨ys, t, hys, ht0⟩ := snoc_of_norm (norm_limbs (val xs)) (fun e => h0 (limbs_eq_nil.1 e))
    have hsm := small_limbs (val xs)
    rw [hys] at hsm
    have htW : t < W64 := hsm t (by simp)
    have hsy : Small ys := fun y hy => hsm y (by simp [hy])
    have HN := Lib.hid (show nbits (val xs) = 64 * ys.length + bitLen t by rw [← nbits_top hsy ht0 htW, ← hys, val_limbs])
    have hct := hlim1.at_ (k := ys.length) (by rw [hys]; simp)
    obtain ⟨ad, rfl, _, hcell⟩ := hct
    rw [hys] at hcell ⊢
    have HLC2 := HLC.out
    rw [hys] at HLC2
    simp only [List.length_append, List.length_singleton] at HLC2 ⊢
    rw [show (ys ++ [t]).getD ys.length 0 = t by simp] at hcell
    obtain ⟨m, hm⟩ : ∃ m, ys.length = m := ⟨_, rfl⟩
    rw [hm] at HN hcell HLC2 ⊢
    have hmI : ((m + 1 : Nat) : Int) - 1 = (m : Int) := by omega
    obtain ⟨L, hL⟩ : ∃ L, m + 1 = L := ⟨_, rfl⟩
    rw [hL] at hmI HLC2 ⊢
    have hLI : (L : Int) ≤ 1099511627776 := by omega
    have hL0 : ((L : Int) == 0) = false := beq_eq_false_iff_ne.2 (by omega)
    obtain ⟨q, hq⟩ : ∃ q, 64 * m = q := ⟨_, rfl⟩
    have hqI : (64 : Int) * (m : Int) = (q : Int) := by omega
    have hmL : (m : Int) < (L : Int) := by omega
    have hmLN : m < L := by omega
    have HQ := Lib.hid (show q ≤ 70368744177664 by omega)
    have HTot := Lib.hid (show nbits (val xs) = q + bitLen t by rw [HN.out, hq])
    have HTW := Lib.hid htW
    clear h0 hys ht0 hsm hsy hm hL hq HLC2 htW hlim1 HN hc1 ho
    go_wp2_with fail
    go_loopw [4, 5] (fun t4 t5 wr => ∃ n x : Nat, t4 = .int .i64 (n : Int) ∧ t5 = .int .u64 (x : Int) ∧ n + bitLen x = q + bitLen t ∧ x < W64 ∧ w1 = wr) (fun _ t5 _ => (intOf t5).toNat)
    case atStart => exact ⟨q, t, rfl, rfl, rfl, HTW.out, rfl⟩
    case round =>
      obtain ⟨n, x, rfl, rfl, hnx, hxW, rfl⟩ := hrel
      have HX := Lib.hid hxW
      have HNX := Lib.hid hnx
      have HNB := Lib.hid (show n ≤ 70368744177664 + 64 by
        have h1 := bitLen_le64 HTW.out
        have := HQ.out
        omega)
      clear hnx hxW
      by_cases hx0 : x = 0
      · subst hx0
        have HE := Lib.hid (show nbits (val xs) = n by
          rw [HTot.out, ← HNX.out, show bitLen 0 = 0 by decide]; rfl)
        go_wp2_with fail
        go_ret
        rw [HE.out]
        exact ⟨rfl, hb⟩
      · have hx1 : (0 : Int) < (x : Int) := by omega
        obtain ⟨y, hy⟩ : ∃ y, x / 2 = y := ⟨_, rfl⟩
        have hyI : (x : Int) / 2 = (y : Int) := by omega
        have HS := Lib.hid (show n + 1 + bitLen y = q + bitLen t by
          have h2 := Lib.bitLen_half x hx0 (by rw [← W64_two]; exact HX.out)
          have h3 : bitLen x = 1 + bitLen (x / 2) := h2
          rw [hy] at h3
          have := HNX.out
          omega)
        have HY := Lib.hid (show y < W64 ∧ y < x from ⟨by have := HX.out; omega, by omega⟩)
        clear hy hx0
        have hnI : (n : Int) ≤ 70368744177728 := by have := HNB.out; omega
        have hwr : IntKind.u64.wrap (y : Int) = (y : Int) := by
          have h3 := HY.out.1
          rw [W64_eq] at h3
          rw [IntKind.wrap_u64]; omega
        go_wp2_with fail
        have hyx := HY.out.2
        exact ⟨⟨n + 1, y, by go_num, rfl, HS.out, HY.out.1, by trivial⟩, by simp [intOf]; omega⟩
set_option maxHeartbeats 400000 in
set_option maxRecDepth 100000 in
theorem ref_cmp (A1 A2 : Option Addr) (l1 l2 c1 c2 : Nat) (xs ys : List Nat) (w : World) (h1 : Lim w w.heap.size A1 xs) (h2 : Lim w w.heap.size A2 ys) (e1 : l1 = xs.length) (e2 : l2 = ys.length) (hc1 : l1 ≤ c1) (hc2 : l2 ≤ c2) (hl1 : l1 ≤ 1099511627776) (hl2 : l2 ≤ 1099511627776) :
    Calls Tryz.prog 119 #[.slice A1 l1 c1, .slice A2 l2 c2] w fun e w' => e = .returned (.int .i64 (cmpN (val xs) (val ys))) ∧ Below w.heap.size w w' := by
  have HT := Lib.hid (ref_trim A1 l1 c1 xs w h1 e1 hc1 hl1)
  have HT2 := Lib.hid (fun (W : World) (hb : Below w.heap.size w W) => ref_trim A2 l2 c2 ys W (h2.below hb) e2 hc2 hl2)
  obtain ⟨m, hm⟩ : ∃ m, val xs = m := ⟨_, rfl⟩
  obtain ⟨n, hn⟩ : ∃ n, val ys = n := ⟨_, rfl⟩
  have HLM := Lib.hid (show (limbs m).length ≤ 1099511627776 by rw [← hm]; exact Nat.le_trans (limbs_val_le h1.small) (by omega))
  have HLN := Lib.hid (show (limbs n).length ≤ 1099511627776 by rw [← hn]; exact Nat.le_trans (limbs_val_le h2.small) (by omega))
  rw [hm] at HT ⊢
  rw [hn] at HT2 ⊢
  clear e1 e2 hc1 hc2 hl1 hl2 hm hn
  go_enter Tryz.func119, Tryz.ntmps119
  go_wp2_with fail
  refine HT.out.mono ?_
  rintro e w1 ⟨v, rfl, ho, hb⟩
  go_wp2_with fail
  refine (HT2.out w1 hb).mono ?_
  rintro e w2 ⟨v2, rfl, ho2, hb2⟩
  have hb12 : Below w.heap.size w w2 := hb.trans (hb2.mono hb.size)
  obtain ⟨A3, c3, rfl, _, hlim3, _⟩ := (ho.below hb2).form
  obtain ⟨A4, c4, rfl, _, hlim4, _⟩ := ho2.form
  have hsx := small_limbs m
  have hsy := small_limbs n
  have hvx := val_limbs m
  have hvy := val_limbs n
  obtain ⟨xl, hxl⟩ : ∃ xl, limbs m = xl := ⟨_, rfl⟩
  obtain ⟨yl, hyl⟩ : ∃ yl, limbs n = yl := ⟨_, rfl⟩
  have HC := Lib.hid (show (xl.length < yl.length → cmpN m n = -1) ∧ (yl.length < xl.length → cmpN m n = 1) from
    ⟨fun h => cmpN_lt (lc_lt (by unfold lc; rw [hxl, hyl]; exact h)), fun h => cmpN_gt (lc_lt (by unfold lc; rw [hxl, hyl]; exact h))⟩)
  have hLM := HLM.out
  have hLN := HLN.out
  rw [hxl] at hlim3 hsx hvx hLM ⊢
  rw [hyl] at hlim4 hsy hvy hLN ⊢
  have HSX := Lib.hid hsx
  have HSY := Lib.hid hsy
  have HVX := Lib.hid hvx
  have HVY := Lib.hid hvy
  have hlxI : (xl.length : Int) ≤ 1099511627776 := by omega
  clear hsx hsy hvx hvy hxl hyl hLM hLN ho ho2 HT HT2 h1 h2
  rcases Nat.lt_trichotomy xl.length yl.length with hlt | heq | hgt
  · have HE := Lib.hid (HC.out.1 hlt)
    have t1 : ((xl.length : Int) != (yl.length : Int)) = true := by rw [bne_iff_ne]; omega
    have t2 : (xl.length : Int) < (yl.length : Int) := by omega
    go_wp2_with fail
    go_ret
    rw [HE.out]
    exact ⟨rfl, hb12⟩
  · have t1 : ((xl.length : Int) != (yl.length : Int)) = false := by rw [bne_eq_false_iff_eq]; omega
    have HQ := Lib.hid heq
    go_wp2_with fail
    go_loopw [7] (fun t7 wr => ∃ k : Nat, k ≤ xl.length ∧ t7 = .int .i64 ((k : Int) - 1) ∧ xl.drop k = yl.drop k ∧ Below w.heap.size w wr ∧ ∃ q, wr = w2.drewN q) (fun t7 _ => (intOf t7 + 1).toNat)
    case atStart => exact ⟨xl.length, Nat.le_refl _, by rw [HQ.out], by simp [HQ.out], hb12, 0, rfl⟩
    case round =>
      obtain ⟨k, hk, rfl, hd, hbr, q, rfl⟩ := hrel
      have HD := Lib.hid hd
      clear hd heq
      rcases k with _ | k
      · have HE := Lib.hid (show cmpN m n = 0 by
          have e : xl = yl := by simpa using HD.out
          exact cmpN_eq (by rw [← HVX.out, ← HVY.out, e]))
        go_wp2_with fail
        go_ret
        rw [HE.out]
        exact ⟨rfl, hbr⟩
      · have HKX := Lib.hid (show k < xl.length by omega)
        have HKY := Lib.hid (show k < yl.length by rw [← HQ.out]; omega)
        obtain ⟨ad, rfl, _, hcell⟩ := hlim3.at_ HKX.out
        obtain ⟨ad2, rfl, _, hcell2⟩ := hlim4.at_ HKY.out
        obtain ⟨x, hx⟩ : ∃ x, xl.getD k 0 = x := ⟨_, rfl⟩
        obtain ⟨y, hy⟩ : ∃ y, yl.getD k 0 = y := ⟨_, rfl⟩
        rw [hx] at hcell
        rw [hy] at hcell2
        have HX := Lib.hid hx
        have HY := Lib.hid hy
        have e1 : ((k + 1 : Nat) : Int) - 1 = (k : Int) := by omega
        rw [e1]
        have b1 : (k : Int) < (xl.length : Int) := by have := HKX.out; omega
        have b2 : (k : Int) < (yl.length : Int) := by have := HKY.out; omega
        clear hx hy e1
        rcases Nat.lt_trichotomy x y with hxy | hxy | hxy
        · have t3 : (x : Int) < (y : Int) := by omega
          have HE := Lib.hid (cmpN_lt (show m < n by rw [← HVX.out, ← HVY.out]; exact val_lt_top HSX.out HSY.out HQ.out HKX.out HD.out (by rw [HX.out, HY.out]; exact hxy)))
          go_wp2_with fail
          go_quiet (fail)
          go_wp2_with fail
          go_ret
          rw [HE.out]
          exact ⟨rfl, below_drewN hbr _⟩
        · subst hxy
          have HS := Lib.hid (drop_same HQ.out HKX.out HD.out (by rw [HX.out, HY.out]))
          have t3 : ¬ (x : Int) < (x : Int) := by omega
          go_wp2_with fail
          go_quiet (fail)
          go_wp2_with fail
          go_quiet (fail)
          go_wp2_with fail
          exact ⟨⟨k, by omega, rfl, HS.out, below_drewN hb12 _, _, rfl⟩, by simp [intOf]⟩
        · have t3 : ¬ (x : Int) < (y : Int) := by omega
          have t4 : (y : Int) < (x : Int) := by omega
          have HE := Lib.hid (cmpN_gt (show n < m by rw [← HVX.out, ← HVY.out]; exact val_lt_top HSY.out HSX.out HQ.out.symm HKY.out HD.out.symm (by rw [HX.out, HY.out]; exact hxy)))
          go_wp2_with fail
          go_quiet (fail)
          go_wp2_with fail
          go_quiet (fail)
          go_wp2_with fail
          go_ret
          rw [HE.out]
          exact ⟨rfl, below_drewN (below_drewN hbr _) _⟩
  · have HE := Lib.hid (HC.out.2 hgt)
    have t1 : ((xl.length : Int) != (yl.length : Int)) = true := by rw [bne_iff_ne]; omega
    have t2 : ¬ (xl.length : Int) < (yl.length : Int) := by omega
    go_wp2_with fail
    go_ret
    rw [HE.out]
    exact ⟨rfl, hb12⟩
end Go.Proofs.YtonbhpadoplpkaaGreat
