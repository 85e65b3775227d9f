import Derived.Test.YtmnfokapdipcdaaSer4
/- The package series: Over, Inverse. -/
namespace Go.Proofs.Ytmnfokapdipcdaa
open Go.RowKit Go.Deep
/-- What series.Over tells. -/
def overR (xp xq : List Raw) (terms : Int) : List Raw × Int :=
  if mayE terms [xp, xq] ≠ 0 then ([], mayE terms [xp, xq]) else if unitAt xq 0 then toldZ (overZ (zAt xp) (zAt xq)) terms.toNat else ([], 340)
theorem mayE_cases (terms : Int) (xss : List (List Raw)) : mayE terms xss = 0 ∨ mayE terms xss = 2 ∨ mayE terms xss = 3 := by
  unfold mayE
  split
  · simp
  · split
    · split <;> simp
    · simp
theorem mayE_zero {terms : Int} {xss : List (List Raw)} (h : mayE terms xss = 0) : 0 ≤ terms ∧ terms ≤ 4096 ∧ ∀ xs ∈ xss, rightPoly xs = true := by
  unfold mayE at h
  split at h
  · cases h
  · split at h
    · split at h
      · cases h
      · rename_i h1 h2 h3
        exact ⟨by omega, by omega, fun xs hx => List.all_eq_true.1 h2 xs hx⟩
    · cases h
theorem right_len {xs : List Raw} (h : rightPoly xs = true) : xs.length ≤ 4096 ∧ ∀ x ∈ xs, x.2.length ≤ 4096 := by
  unfold rightPoly at h
  simp only [Bool.and_eq_true, decide_eq_true_eq] at h
  refine ⟨h.1.1, fun x hx => ?_⟩
  have h1 := List.all_eq_true.1 h.1.2 x hx
  unfold rightInt at h1
  simp only [Bool.or_eq_true, Bool.and_eq_true, beq_iff_eq, decide_eq_true_eq] at h1
  rcases h1 with h1 | h1
  · omega
  · exact h1.1.2
theorem zAt_small {xs : List Raw} {t : Nat} (h : ∀ x ∈ xs, x.2.length ≤ t) (hs : ∀ x ∈ xs, Small x.2) (k : Nat) : (zAt xs k).natAbs ≤ W64 ^ t := by
  unfold zAt
  rw [signed_natAbs]
  by_cases hk : k < xs.length
  · have h1 := h _ (getD_mem hk)
    have h2 := val_lt (hs _ (getD_mem hk))
    exact Nat.le_trans (Nat.le_of_lt h2) (Nat.pow_le_pow_right W64_pos h1)
  · rw [show xs.getD k (false, []) = (false, []) by simp [show xs[k]? = none from List.getElem?_eq_none (by omega)]]
    exact Nat.zero_le _
theorem Poly.small {w : World} {B : Nat} {A : Option Addr} {xs : List Raw} (h : Poly w B A xs) : ∀ x ∈ xs, Small x.2 := by
  intro x hx
  obtain ⟨i, hi, rfl⟩ := List.getElem_of_mem hx
  obtain ⟨ad, Am, l, c, _, _, _, _, _, _, hlim⟩ := h.at_ hi
  have e : xs.getD i (false, []) = xs[i] := by simp [hi]
  rw [e] at hlim
  exact hlim.small
theorem lc_pow_bound {k n L : Nat} (h : (2 + 64 * k) * (n + 1) < 64 * L) : lc ((4 * W64 ^ k) ^ (n + 1)) ≤ L := by
  rw [lc_le, W64_two, ← Nat.pow_mul, ← Nat.pow_mul, show (4 : Nat) = 2 ^ 2 from rfl, ← Nat.pow_add, ← Nat.pow_mul]
  exact Nat.pow_lt_pow_right (by omega) h
theorem lc_bound_at {n t : Nat} (ht : t = 4096) (hn : n ≤ 4096) : lc ((4 * W64 ^ t) ^ (n + 1)) ≤ 134217728 :=
  lc_pow_bound (by
    subst ht
    have : (2 + 64 * 4096) * (n + 1) ≤ (2 + 64 * 4096) * 4097 := Nat.mul_le_mul_left _ (by omega)
    omega)
theorem lc_bound {n : Nat} (hn : n ≤ 4096) : lc ((4 * W64 ^ 4096) ^ (n + 1)) ≤ 134217728 := lc_bound_at (t := 4096) rfl hn
theorem overZ_len {a b : Nat → Int} {n : Nat} (hn : n ≤ 4096) (ha : ∀ k, (a k).natAbs ≤ W64 ^ 4096) (hb : ∀ k, (b k).natAbs ≤ W64 ^ 4096) (k : Nat) (hk : k < n) : (limbs (overZ a b k).natAbs).length ≤ 549755813888 :=
  Nat.le_trans (len_of_pow2 (Nat.pow_pos W64_pos) (show k + 1 ≤ n + 1 by omega) (overZ_small (Nat.pow_pos W64_pos) (fun j _ => ha j) (fun j _ => hb j) k hk) (lc_bound hn)) (by omega)
/-- Two slices of records side by side. -/
theorem Polys.two {w : World} {Ap Aq : Option Addr} {lp cp lq cq : Nat} {xp xq : List Raw} (hp : Poly w w.heap.size Ap xp) (hq : Poly w w.heap.size Aq xq) (hlp : lp = xp.length) (hlq : lq = xq.length) (hcp : lp ≤ cp) (hcq : lq ≤ cq) (t : TypeId) :
    Polys (w.alloc (.cells #[.slice Ap lp cp, .slice Aq lq cq] t)) (w.heap.size + 1) (some ⟨w.heap.size, 0, none⟩) [xp, xq] := by
  have hb : Below w.heap.size w (w.alloc (.cells #[.slice Ap lp cp, .slice Aq lq cq] t)) := (Below.refl _ _).alloc (Nat.le_refl _) _
  refine ⟨fun _ => ⟨_, rfl, by simp, fun j hj => ?_⟩⟩
  simp only [List.length_cons, List.length_nil] at hj
  obtain rfl | rfl : j = 0 ∨ j = 1 := by omega
  · exact ⟨Ap, lp, cp, by rw [add_plain, cell_of_row _ _ _ _ _ (0, 0) (heap_alloc_new w _)]; rfl, by simpa using hlp, hcp, (hp.below hb).more (by omega)⟩
  · exact ⟨Aq, lq, cq, by rw [add_plain, cell_of_row _ _ _ _ _ (0, 0) (heap_alloc_new w _)]; rfl, by simpa using hlq, hcq, (hq.below hb).more (by omega)⟩
set_option maxRecDepth 100000 in
theorem series_Over (Ap Aq : Option Addr) (lp cp lq cq : Nat) (xp xq : List Raw) (terms : Int) (w : World) (hp : Poly w w.heap.size Ap xp) (hq : Poly w w.heap.size Aq xq) (hlp : lp = xp.length) (hlq : lq = xq.length) (hcp : lp ≤ cp) (hcq : lq ≤ cq) :
    Calls Try.prog 20 #[.slice Ap lp cp, .slice Aq lq cq, .int .i64 terms] w fun e w' => ∃ v, e = .returned (.tuple #[v, .int .i64 (overR xp xq terms).2]) ∧ Told w' w.heap.size v (overR xp xq terms).1 ∧ Below w.heap.size w w' := by
  have HLP := Lib.hid hlp
  have HLQ := Lib.hid hlq
  have HCP := Lib.hid hcp
  have HCQ := Lib.hid hcq
  obtain ⟨E, hE⟩ : ∃ E, mayE terms [xp, xq] = E := ⟨_, rfl⟩
  have HM := Lib.hid hE
  obtain ⟨un, hun⟩ : ∃ un, unitAt xq 0 = un := ⟨_, rfl⟩
  have HU := Lib.hid hun
  have HO := Lib.hid (show overR xp xq terms = if E ≠ 0 then ([], E) else if un then toldZ (overZ (zAt xp) (zAt xq)) terms.toNat else ([], 340) by rw [overR, hE, hun])
  clear hlp hlq hcp hcq hE hun
  go_enter Try.func20, Try.ntmps20
  go_wp2_with fail
  have hps := Polys.two hp hq HLP.out HLQ.out HCP.out HCQ.out 22
  refine (series_may terms _ 2 2 [xp, xq] _ (by simpa using hps) rfl (by omega)).mono ?_
  rintro e w1 ⟨rfl, hb1⟩
  have hb1' : Below w.heap.size w w1 := ((Below.refl _ w).alloc (Nat.le_refl _) _).trans (hb1.mono (by simp))
  rw [HM.out]
  by_cases hE0 : E = 0
  · subst hE0
    obtain ⟨h0, h4, hr⟩ := mayE_zero HM.out
    obtain ⟨n, rfl⟩ : ∃ n : Nat, terms = (n : Int) := ⟨terms.toNat, by omega⟩
    have hp1 := (hp.below hb1').more hb1'.size
    have hq1 := (hq.below hb1').more hb1'.size
    have HSP := Lib.hid (right_len (hr xp (by simp))).2
    have HSQ := Lib.hid (right_len (hr xq (by simp))).2
    clear hr
    go_wp2_with fail
    refine (series_unit 0 Aq lq cq xq w1 hq1 HLQ.out).mono ?_
    rintro e w2 ⟨rfl, rfl⟩
    rw [HU.out]
    cases un with
    | false =>
      have HE := Lib.hid (show overR xp xq (n : Int) = ([], 340) by rw [HO.out]; rfl)
      clear HO
      go_wp2_with fail
      go_ret2
      rw [HE.out]
      exact ⟨_, rfl, Told.nil _ hb1'.size, hb1'⟩
    | true =>
      have HO2 := Lib.hid (show overR xp xq (n : Int) = toldZ (overZ (zAt xp) (zAt xq)) n by rw [HO.out]; rfl)
      clear HO
      have HN := Lib.hid (show n ≤ 4096 by omega)
      go_wp2_with fail
      refine (series_value Ap lp cp n xp w1 hp1 HLP.out HN.out HSP.out).mono ?_
      rintro e w2 ⟨gs2, rfl, hl2, hI2, hb2⟩
      go_wp2_with fail
      refine (series_value Aq lq cq n xq w2 ((hq1.below hb2).more hb2.size) HLQ.out HN.out HSQ.out).mono ?_
      rintro e w3 ⟨gs3, rfl, hl3, hI3, hb3⟩
      have HA := Lib.hid (zAt_small HSP.out hp.small)
      have HB := Lib.hid (zAt_small HSQ.out hq.small)
      have hlc := Lib.hid (lc_bound HN.out)
      go_wp2_with fail
      refine (series_over w1.heap.size w2.heap.size _ _ n (W64 ^ 4096) gs2 gs3 (zAt xp) (zAt xq) w3 (hI2.below hb3) hl2 hI3 hl3 HN.out (Nat.pow_pos W64_pos) hlc.out (fun k _ => HA.out k) (fun k _ => HB.out k)).mono ?_
      rintro e w4 ⟨gs4, rfl, hl4, hI4, hb4⟩
      have HLen := Lib.hid (overZ_len HN.out HA.out HB.out)
      go_wp2_with fail
      refine (series_told w3.heap.size n _ gs4 _ w4 hI4 hl4 HN.out HLen.out).mono ?_
      rintro e w5 ⟨v, rfl, ht, hb5⟩
      have hbz : Below w.heap.size w w5 := (((hb1'.trans (hb2.mono hb1'.size)).trans (hb3.mono (Nat.le_trans hb1'.size hb2.size))).trans (hb4.mono (Nat.le_trans (Nat.le_trans hb1'.size hb2.size) hb3.size))).trans (hb5.mono (Nat.le_trans (Nat.le_trans (Nat.le_trans hb1'.size hb2.size) hb3.size) hb4.size))
      have hsz : w.heap.size ≤ w4.heap.size := Nat.le_trans (Nat.le_trans (Nat.le_trans hb1'.size hb2.size) hb3.size) hb4.size
      go_wp2_with fail
      go_ret2
      rw [HO2.out]
      exact ⟨v, rfl, ht.since hsz, hbz⟩
  · have HE := Lib.hid (show overR xp xq terms = ([], E) by rw [HO.out, if_pos hE0])
    have tE : (E == 0) = false := beq_eq_false_iff_ne.2 hE0
    clear HO hE0
    go_wp2_with fail
    go_ret2
    rw [HE.out]
    exact ⟨_, rfl, Told.nil _ hb1'.size, hb1'⟩
/-- The polynomial 1. -/
def one1 : List Raw := [(false, [1])]
theorem Poly.one {w : World} {t1 t2 : TypeId} : Poly ((w.alloc (.cells #[.int .u64 1] t1)).alloc (.cells #[.bool false, .slice (some ⟨w.heap.size, 0, none⟩) 1 1] t2)) (w.heap.size + 2) (some ⟨w.heap.size + 1, 0, none⟩) one1 := by
  have e1 : (w.alloc (.cells #[.int .u64 1] t1)).heap.size = w.heap.size + 1 := by simp
  have h2 := heap_alloc_new (w.alloc (.cells #[.int .u64 1] t1)) (.cells #[.bool false, .slice (some ⟨w.heap.size, 0, none⟩) 1 1] t2)
  rw [e1] at h2
  have h1 : ((w.alloc (.cells #[.int .u64 1] t1)).alloc (.cells #[.bool false, .slice (some ⟨w.heap.size, 0, none⟩) 1 1] t2)).heap[w.heap.size]? = some (.cells #[.int .u64 1] t1) := by
    rw [Below.heap_alloc _ _ _ (by simp)]; exact heap_alloc_new w _
  refine ⟨fun _ => ⟨_, rfl, by simp, fun j hj => ?_⟩⟩
  obtain rfl : j = 0 := by simp [one1] at hj; omega
  refine ⟨some ⟨w.heap.size, 0, none⟩, 1, 1, ?_, ?_, rfl, Nat.le_refl _, Small.one (by rw [W64_eq]; omega), fun _ => ⟨_, rfl, by simp, fun k hk => ?_⟩⟩
  · rw [add_plain, cell_of_row _ _ _ _ _ (0, 0) h2]; rfl
  · rw [add_plain, cell_of_row _ _ _ _ _ (0, 0) h2]; rfl
  · obtain rfl : k = 0 := by simp [one1] at hk; omega
    rw [add_plain, cell_of_row _ _ _ _ _ (0, 0) h1]; rfl
set_option maxRecDepth 100000 in
theorem series_Inverse (Ap : Option Addr) (lp cp : Nat) (xp : List Raw) (terms : Int) (w : World) (hp : Poly w w.heap.size Ap xp) (hlp : lp = xp.length) (hcp : lp ≤ cp) :
    Calls Try.prog 18 #[.slice Ap lp cp, .int .i64 terms] w fun e w' => ∃ v, e = .returned (.tuple #[v, .int .i64 (overR one1 xp terms).2]) ∧ Told w' w.heap.size v (overR one1 xp terms).1 ∧ Below w.heap.size w w' := by
  have HLP := Lib.hid hlp
  have HCP := Lib.hid hcp
  clear hlp hcp
  go_enter Try.func18, Try.ntmps18
  go_wp2_with fail
  have hb : Below w.heap.size w ((w.alloc (.cells #[.int .u64 1] 33)).alloc (.cells #[.bool false, .slice (some ⟨w.heap.size, 0, none⟩) 1 1] 36)) := ((Below.refl _ w).alloc (Nat.le_refl _) _).alloc (by simp) _
  refine (series_Over _ Ap 1 1 lp cp one1 xp terms _ (by simpa using Poly.one (w := w) (t1 := 33) (t2 := 36)) ((hp.below hb).more hb.size) rfl HLP.out (Nat.le_refl _) HCP.out).mono ?_
  rintro e w1 ⟨v, rfl, ht, hb1⟩
  go_wp2_with fail
  go_ret2
  exact ⟨v, rfl, ht.since hb.size, hb.trans (hb1.mono hb.size)⟩
end Go.Proofs.Ytmnfokapdipcdaa
