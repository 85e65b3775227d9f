import Derived.Test.YtmnfokapdipcdaaSer2
import Derived.Test.YtmnfokapdipcdaaRec
import Derived.Test.YtmnfokapdipcdaaLaw2
/- The package series: told. -/
namespace Go.Proofs.Ytmnfokapdipcdaa
open Go.RowKit Go.Deep
theorem toldZ_ok {z : Nat → Int} {n : Nat} (h : ∀ i, i < topZ z n → nbits (z i).natAbs ≤ 262144) : toldZ z n = ((List.range (topZ z n)).map (fun i => rawOf (z i)), 0) := by
  unfold toldZ
  rw [if_neg]
  simp only [List.any_eq_true, List.mem_range, decide_eq_true_eq, not_exists, not_and]
  intro i hi
  have := h i hi
  omega
theorem toldZ_long {z : Nat → Int} {n i : Nat} (hi : i < topZ z n) (h : 262144 < nbits (z i).natAbs) : toldZ z n = ([], 3) := by
  unfold toldZ
  rw [if_pos]
  simp only [List.any_eq_true, List.mem_range, decide_eq_true_eq]
  exact ⟨i, hi, h⟩
theorem told_succ (z : Nat → Int) (i : Nat) : (List.range (i + 1)).map (fun j => rawOf (z j)) = (List.range i).map (fun j => rawOf (z j)) ++ [rawOf (z i)] := by
  rw [List.range_succ, List.map_append]; rfl
set_option maxRecDepth 100000 in
theorem series_told (G n base : Nat) (gs : List Nat) (z : Nat → Int) (w : World) (hI : Ints w base G gs n z) (hl : gs.length = n) (hn : n ≤ 4096) (hz : ∀ k, k < n → (limbs (z k).natAbs).length ≤ 549755813888) :
    Calls Try.prog 52 #[.slice (some ⟨G, 0, none⟩) n n] w fun e w' => ∃ v, e = .returned (.tuple #[v, .int .i64 (toldZ z n).2]) ∧ Told w' w.heap.size v (toldZ z n).1 ∧ Below w.heap.size w w' := by
  have hnI : (n : Int) ≤ 4096 := by omega
  have HGS := Lib.hid hl
  obtain ⟨m, hm⟩ : ∃ m, topZ z n = m := ⟨_, rfl⟩
  have hmn : m ≤ n := by rw [← hm]; exact topZ_le z n
  have HM := Lib.hid hm
  clear hl hn hm
  go_enter Try.func52, Try.ntmps52
  go_upto_block 0 with (fail)
  go_cut [0] (fun t0 wx => w = wx ∧ t0 = .slice (some ⟨G, 0, none⟩) m n)
  case first =>
    go_wp2_with fail
    go_loopg [0] n (fun gk t0 wr => gk ≤ n ∧ w = wr ∧ t0 = .slice (some ⟨G, 0, none⟩) gk n ∧ topZ z gk = m)
    case atStart => exact ⟨Nat.le_refl n, rfl, rfl, HM.out⟩
    case round =>
      obtain ⟨hk, rfl, rfl, htop⟩ := hrel
      have HT := Lib.hid htop
      clear htop
      by_cases h0 : gk = 0
      · subst h0
        have HE := Lib.hid (show m = 0 by rw [← HT.out]; rfl)
        go_wp2_with fail
        go_meet
        rw [HE.out]
        exact ⟨rfl, rfl⟩
      · obtain ⟨q, rfl⟩ : ∃ q, gk = q + 1 := ⟨gk - 1, by omega⟩
        have hcq := hI.cell (i := q) (by rw [HGS.out]; omega)
        have hiq := hI.at_ q (by rw [HGS.out]; omega)
        unfold ptr at hcq
        obtain ⟨gq, hgq⟩ : ∃ gq, gs.getD q 0 = gq := ⟨_, rfl⟩
        rw [hgq] at hcq hiq
        have HZ := Lib.hid (hz q (by omega))
        have hqI : ((q + 1 : Nat) : Int) - 1 = (q : Int) := by omega
        have hq1 : (0 : Int) < ((q + 1 : Nat) : Int) := by omega
        have hqn : (q : Int) < ((q + 1 : Nat) : Int) := by omega
        obtain ⟨k, hkk⟩ : ∃ k, q + 1 = k := ⟨_, rfl⟩
        rw [hkk] at hk hqI hq1 hqn ⊢
        have HK := Lib.hid hkk
        clear hgq h0 hkk
        go_wp2_with fail
        refine (int_sign gq (z q) w hiq (by have := HZ.out; omega)).mono ?_
        rintro e w1 ⟨rfl, rfl⟩
        by_cases hzq : z q = 0
        · have HT2 := Lib.hid (show topZ z q = m by rw [← HT.out]; exact (if_pos hzq).symm)
          rw [show (z q).sign = 0 by rw [hzq]; rfl]
          clear hzq
          go_wp2_with fail
          go_roundg q
          case measure => have := HK.out; omega
          case rel => exact ⟨by omega, rfl, rfl, HT2.out⟩
        · have HE := Lib.hid (show m = k by rw [← HT.out, ← HK.out]; exact if_neg hzq)
          have hs : ((z q).sign == 0) = false := beq_eq_false_iff_ne.2 (fun e => hzq (Int.sign_eq_zero_iff_zero.1 e))
          clear hzq
          go_wp2_with fail
          go_meet
          rw [HE.out]
          exact ⟨rfl, rfl⟩
  case rest =>
    obtain ⟨rfl, rfl⟩ := hcut
    have hmk := make_recs m (by omega)
    have hmI : (m : Int) ≤ 4096 := by omega
    go_wp2_with fail
    have HTOP := Lib.hid HM.out
    go_loopw [32] (fun t32 wr => ∃ (i : Nat) (l : List (Bool × Value)), i ≤ m ∧ t32 = .int .i64 (i : Int) ∧ l.length = m ∧ Recs wr w.heap.size wr.heap.size (.slice (some ⟨w.heap.size, 0, none⟩) m m) l ((List.range i).map (fun j => rawOf (z j))) ∧ (∀ j, i ≤ j → j < m → l.getD j rec0 = rec0) ∧ (∀ j, j < i → nbits (z j).natAbs ≤ 262144) ∧ Below w.heap.size w wr) (fun t32 _ => m - (intOf t32).toNat)
    case atStart =>
      refine ⟨0, List.replicate m rec0, by omega, rfl, by simp, ?_, fun j _ hj => by simp [hj], fun j hj => by omega, (Below.refl _ _).alloc (Nat.le_refl _) _⟩
      exact (Recs.made w (Nat.le_refl _) m (by omega)).rise (by simp)
    case round =>
      obtain ⟨wo, hwo⟩ : ∃ wo : World, wo = wr := ⟨_, rfl⟩
      subst hwo
      obtain ⟨i, l, hi, rfl, hl, hrec, hrest, hbits, hbel⟩ := hrel
      have HRest := Lib.hid hrest
      have HBits := Lib.hid hbits
      have HL := Lib.hid hl
      clear hrest hbits hl
      by_cases hlt : i < m
      · have hIo := hI.below (hbel.mono (Nat.le_refl _))
        have hci := hIo.cell (i := i) (by rw [HGS.out]; omega)
        have hii := hIo.at_ i (by rw [HGS.out]; omega)
        unfold ptr at hci
        obtain ⟨gi, hgi⟩ : ∃ gi, gs.getD i 0 = gi := ⟨_, rfl⟩
        rw [hgi] at hci hii
        have HZ := Lib.hid (hz i (by omega))
        have HGI := Lib.hid hgi
        obtain ⟨sg, hsg⟩ : ∃ sg, (z i).sign = sg := ⟨_, rfl⟩
        have HSG := Lib.hid hsg
        have HIL := Lib.hid (show i < l.length by rw [HL.out]; exact hlt)
        have HXL := Lib.hid (show ((List.range i).map (fun j => rawOf (z j))).length = i by simp)
        clear hgi hsg
        have hr0 := HRest.out i (Nat.le_refl _) hlt
        have hc0 := hrec.cell0 HIL.out
        rw [hr0] at hc0
        have hf0 := hrec.free HL.out.symm (i * 2)
        have hs1 := hrec.sign HL.out.symm (by rw [HXL.out]; exact Nat.le_refl _) HIL.out (decide (sg < 0)) hr0
        have HR0 := Lib.hid hr0
        clear hr0
        unfold rec0 at hc0 hs1
        simp only at hc0 hs1
        go_wp2_with fail
        refine (int_bitlen gi (z i) wo hii (by have := HZ.out; omega)).mono ?_
        rintro e w1 ⟨rfl, rfl⟩
        obtain ⟨nb, hnb⟩ : ∃ nb, nbits (z i).natAbs = nb := ⟨_, rfl⟩
        rw [hnb]
        have HNB := Lib.hid hnb
        clear hnb
        by_cases hlong : 262144 < nb
        · have HE := Lib.hid (toldZ_long (z := z) (n := n) (i := i) (by rw [HTOP.out]; exact hlt) (by rw [HNB.out]; exact hlong))
          have hlI : (262144 : Int) < (nb : Int) := by omega
          clear hlong
          go_wp2_with fail
          go_ret2
          rw [HE.out]
          exact ⟨_, rfl, Told.nil _ hbel.size, hbel⟩
        · have hlI : (nb : Int) ≤ 262144 := by omega
          have HB2 := Lib.hid (show nbits (z i).natAbs ≤ 262144 by rw [HNB.out]; omega)
          clear hlong
          go_wp2_with fail
          refine (int_sign gi (z i) wo hii (by have := HZ.out; omega)).mono ?_
          rintro e w1 ⟨rfl, rfl⟩
          rw [HSG.out]
          go_wp2_with fail
          have hii1 := (hI.at_ i (by rw [HGS.out]; omega)).below (hbel.setCell (p := ⟨w.heap.size, i * 2, none⟩) (Nat.le_refl _) (.bool (decide (sg < 0))))
          rw [HGI.out] at hii1
          have hb1 := hbel.setCell (p := ⟨w.heap.size, i * 2, none⟩) (Nat.le_refl _) (.bool (decide (sg < 0)))
          have HSB := Lib.hid (show decide (sg < 0) = decide (z i < 0) by rw [← HSG.out, decide_eq_decide]; exact Int.sign_neg_iff)
          obtain ⟨b, hb⟩ : ∃ b, decide (sg < 0) = b := ⟨_, rfl⟩
          rw [hb] at hs1 hb1 hii1 HSB ⊢
          generalize hW1 : wo.setCell ⟨w.heap.size, i * 2, none⟩ (.bool b) = W1 at hs1 hb1 hii1 ⊢
          have hsz1 : W1.heap.size = wo.heap.size := by rw [← hW1]; simp
          clear hW1 hc0 hf0 hci hii hb hrec
          refine (int_bits gi (z i) W1 hii1 (by have := HZ.out; omega)).mono ?_
          rintro e w2 ⟨A2, rfl, hlim2, hb2⟩
          obtain ⟨ms, hms⟩ : ∃ ms, limbs (z i).natAbs = ms := ⟨_, rfl⟩
          have hZl := HZ.out
          rw [hms] at hlim2 hZl ⊢
          have HMS := Lib.hid hms
          clear hms
          have hmI2 : (ms.length : Int) ≤ 549755813888 := by omega
          clear hZl
          have hs2 := hs1.below (hb2.mono (by omega))
          have hbw2 := hb1.trans (hb2.mono hb1.size)
          have hsz2 := hb2.size
          have HSL := Lib.hid (show (l.set i (b, Value.slice none 0 0)).length = m by rw [List.length_set, HL.out])
          have HNN := Lib.hid (hs2.noNum HSL.out.symm (fun j hj hjl => by
            rw [HXL.out] at hj
            by_cases hji : j = i
            · subst hji; rw [getD_set_eq _ HIL.out]; exact ⟨none, 0, 0, rfl⟩
            · rw [getD_set_ne _ hji, HRest.out j hj (by rw [← HSL.out]; exact hjl)]; exact ⟨none, 0, 0, rfl⟩))
          have hE2 : Ext (· = w.heap.size) w2 w2 := Ext.refl _ _ (fun j hj _ => by subst hj; exact HNN.out)
          clear hs1 hii1
          go_wp2_with fail
          go_loopw [50] (fun t50 wi => ∃ (q : Nat) (v : Value), q ≤ ms.length ∧ t50 = .int .i64 (q : Int) ∧ Own wi w2.heap.size v (ms.take q) ∧ Recs wi w.heap.size wo.heap.size (.slice (some ⟨w.heap.size, 0, none⟩) m m) (l.set i (b, v)) ((List.range i).map (fun j => rawOf (z j))) ∧ Ext (· = w.heap.size) w2 wi) (fun t50 _ => ms.length - (intOf t50).toNat)
          case atStart => exact ⟨0, _, by omega, rfl, by rw [List.take_zero]; exact Own.nil _ _, hs2, hE2⟩
          case round =>
            obtain ⟨q, v, hq, rfl, hown, hrec, hext⟩ := hrel
            by_cases hqm : q < ms.length
            · obtain ⟨ad, rfl, hbA, hcA⟩ := ((hlim2.ext (Nat.le_refl _) hext)).at_ hqm
              obtain ⟨x, hx⟩ : ∃ x, ms.getD q 0 = x := ⟨_, rfl⟩
              have hxs : x < W64 := hx ▸ hlim2.small.getD q
              rw [hx] at hcA
              have HSET := Lib.hid (show (l.set i (b, v)).length = m by rw [List.length_set, HL.out])
              have HI2 := Lib.hid (show i < (l.set i (b, v)).length by rw [HSET.out]; exact hlt)
              have hcv := hrec.cell1 HI2.out
              rw [getD_set_eq _ HIL.out] at hcv
              simp only at hcv
              have HLE := Lib.hid (show (ms.take q).length + 1 ≤ 17592186044416 by rw [List.length_take]; omega)
              have HTS := Lib.hid (show ms.take (q + 1) = ms.take q ++ [x] by rw [List.take_succ_eq_append_getElem hqm, ← hx]; simp [hqm])
              have hszi := hext.size
              have HSZ := Lib.hid (show wo.heap.size ≤ w2.heap.size by omega)
              clear hx
              go_wp2_with (at_builtin; refine append_one (w0 := wr) w2.heap.size rfl _ _ rfl v (ms.take q) x (by rfl) (by rfl) hxs hown (Below.refl _ _) hext.size HLE.out ?_)
              intro v1 w3 hown1 hb3 _
              have hrec3 := hrec.below (hb3.mono HSZ.out)
              obtain ⟨A1, l1, c1, rfl⟩ := hown1.slice
              have hcv3 := hrec3.cell1 HI2.out
              rw [getD_set_eq _ HIL.out] at hcv3
              simp only at hcv3
              have hfv3 := hrec3.free HSET.out.symm (i * 2 + 1)
              have hat := hrec3.at_
              have hrec4 := hrec3.limbs HSET.out.symm (by rw [HXL.out]; exact Nat.le_refl _) HI2.out (.slice A1 l1 c1) (getD_set_eq _ HIL.out _ _)
              rw [List.set_set] at hrec4
              have hown4 := hown1.far (p := ⟨w.heap.size, i * 2 + 1, none⟩) (x := .slice A1 l1 c1) (fun g hg => by have := (hown1.own.lt g hg).1; show ¬ g = w.heap.size; omega)
              rw [← HTS.out] at hown4
              have hext4 : Ext (· = w.heap.size) w2 (w3.setCell ⟨w.heap.size, i * 2 + 1, none⟩ (.slice A1 l1 c1)) := by
                refine ⟨hb3.os.trans hext.os, hb3.tape.trans hext.tape, hb3.output.trans hext.output, by simpa using Nat.le_trans hext.size hb3.size, fun j hj hne => ?_, fun j hj _ => by subst hj; exact HNN.out⟩
                rw [Below.heap_setCell _ _ _ j (by simpa using hne), hb3.block j hj, hext.block j hj hne]
              clear hcv hrec
              go_wp2_with fail
              exact ⟨⟨q + 1, _, by omega, by go_num, hown4, hrec4, hext4⟩, by simp [intOf]; omega⟩
            · obtain rfl : q = ms.length := by omega
              have HT := Lib.hid (List.take_length (l := ms))
              rw [HT.out] at hown
              have hgb : Below w.heap.size w wr := ((Ext.of_below hbw2 : Ext Nix w w2).hidden hext (Nat.le_refl _)).below
              have hpush := hrec.push (top' := wr.heap.size) (b := b) (u := v) (ys := ms) (by rw [HXL.out]; exact getD_set_eq _ HIL.out _ _) (by rw [HXL.out, List.length_set]; exact HIL.out) (hown.mono (by omega)) (by have := hext.size; omega) (fun g hg => (hown.own.lt g hg).2)
              have HRAW := Lib.hid (show (List.range i).map (fun j => rawOf (z j)) ++ [(b, ms)] = (List.range (i + 1)).map (fun j => rawOf (z j)) by rw [told_succ, rawOf, HMS.out, ← HSB.out])
              rw [HRAW.out] at hpush
              have HSET := Lib.hid (show (l.set i (b, v)).length = m by rw [List.length_set, HL.out])
              go_wp2_with fail
              exact ⟨⟨i + 1, _, by omega, by go_num, HSET.out, hpush, fun j hj hjm => by rw [getD_set_ne _ (by omega)]; exact HRest.out j (by omega) hjm, fun j hj => by
                by_cases hji : j = i
                · subst hji; exact HB2.out
                · exact HBits.out j (by omega), hgb⟩, by simp [intOf]; omega⟩
      · obtain rfl : i = m := by omega
        have HE := Lib.hid (toldZ_ok (z := z) (n := n) (fun j hj => HBits.out j (by rw [HTOP.out] at hj; exact hj)))
        go_wp2_with fail
        go_ret2
        rw [HE.out, HTOP.out]
        exact ⟨_, rfl, ⟨l, _, hrec, by simp [HL.out], Nat.le_refl _⟩, hbel⟩
end Go.Proofs.Ytmnfokapdipcdaa
/- The package series: Over, Inverse. -/
namespace Go.Proofs.Ytmnfokapdipcdaa
open Go.RowKit Go.Deep
/-- What series.Over tells. -/
def overR (xp xq : List Raw) (terms : Int) : List Raw × Int :=
  if mayE terms [xp, xq] ≠ 0 then ([], mayE terms [xp, xq]) else if unitAt xq 0 then toldZ (overZ (zAt xp) (zAt xq)) terms.toNat else ([], 340)
theorem mayE_cases (terms : Int) (xss : List (List Raw)) : mayE terms xss = 0 ∨ mayE terms xss = 2 ∨ mayE terms xss = 3 := by
  unfold mayE
  split
  · simp
  · split
    · split <;> simp
    · simp
theorem mayE_zero {terms : Int} {xss : List (List Raw)} (h : mayE terms xss = 0) : 0 ≤ terms ∧ terms ≤ 4096 ∧ ∀ xs ∈ xss, rightPoly xs = true := by
  unfold mayE at h
  split at h
  · cases h
  · split at h
    · split at h
      · cases h
      · rename_i h1 h2 h3
        exact ⟨by omega, by omega, fun xs hx => List.all_eq_true.1 h2 xs hx⟩
    · cases h
theorem right_len {xs : List Raw} (h : rightPoly xs = true) : xs.length ≤ 4096 ∧ ∀ x ∈ xs, x.2.length ≤ 4096 := by
  unfold rightPoly at h
  simp only [Bool.and_eq_true, decide_eq_true_eq] at h
  refine ⟨h.1.1, fun x hx => ?_⟩
  have h1 := List.all_eq_true.1 h.1.2 x hx
  unfold rightInt at h1
  simp only [Bool.or_eq_true, Bool.and_eq_true, beq_iff_eq, decide_eq_true_eq] at h1
  rcases h1 with h1 | h1
  · omega
  · exact h1.1.2
theorem zAt_small {xs : List Raw} {t : Nat} (h : ∀ x ∈ xs, x.2.length ≤ t) (hs : ∀ x ∈ xs, Small x.2) (k : Nat) : (zAt xs k).natAbs ≤ W64 ^ t := by
  unfold zAt
  rw [signed_natAbs]
  by_cases hk : k < xs.length
  · have h1 := h _ (getD_mem hk)
    have h2 := val_lt (hs _ (getD_mem hk))
    exact Nat.le_trans (Nat.le_of_lt h2) (Nat.pow_le_pow_right W64_pos h1)
  · rw [show xs.getD k (false, []) = (false, []) by simp [show xs[k]? = none from List.getElem?_eq_none (by omega)]]
    exact Nat.zero_le _
theorem Poly.small {w : World} {B : Nat} {A : Option Addr} {xs : List Raw} (h : Poly w B A xs) : ∀ x ∈ xs, Small x.2 := by
  intro x hx
  obtain ⟨i, hi, rfl⟩ := List.getElem_of_mem hx
  obtain ⟨ad, Am, l, c, _, _, _, _, _, _, hlim⟩ := h.at_ hi
  have e : xs.getD i (false, []) = xs[i] := by simp [hi]
  rw [e] at hlim
  exact hlim.small
theorem lc_pow_bound {k n L : Nat} (h : (2 + 64 * k) * (n + 1) < 64 * L) : lc ((4 * W64 ^ k) ^ (n + 1)) ≤ L := by
  rw [lc_le, W64_two, ← Nat.pow_mul, ← Nat.pow_mul, show (4 : Nat) = 2 ^ 2 from rfl, ← Nat.pow_add, ← Nat.pow_mul]
  exact Nat.pow_lt_pow_right (by omega) h
theorem lc_bound_at {n t : Nat} (ht : t = 4096) (hn : n ≤ 4096) : lc ((4 * W64 ^ t) ^ (n + 1)) ≤ 134217728 :=
  lc_pow_bound (by
    subst ht
    have : (2 + 64 * 4096) * (n + 1) ≤ (2 + 64 * 4096) * 4097 := Nat.mul_le_mul_left _ (by omega)
    omega)
theorem lc_bound {n : Nat} (hn : n ≤ 4096) : lc ((4 * W64 ^ 4096) ^ (n + 1)) ≤ 134217728 := lc_bound_at (t := 4096) rfl hn
theorem overZ_len {a b : Nat → Int} {n : Nat} (hn : n ≤ 4096) (ha : ∀ k, (a k).natAbs ≤ W64 ^ 4096) (hb : ∀ k, (b k).natAbs ≤ W64 ^ 4096) (k : Nat) (hk : k < n) : (limbs (overZ a b k).natAbs).length ≤ 549755813888 :=
  Nat.le_trans (len_of_pow2 (Nat.pow_pos W64_pos) (show k + 1 ≤ n + 1 by omega) (overZ_small (Nat.pow_pos W64_pos) (fun j _ => ha j) (fun j _ => hb j) k hk) (lc_bound hn)) (by omega)
/-- Two slices of records side by side. -/
theorem Polys.two {w : World} {Ap Aq : Option Addr} {lp cp lq cq : Nat} {xp xq : List Raw} (hp : Poly w w.heap.size Ap xp) (hq : Poly w w.heap.size Aq xq) (hlp : lp = xp.length) (hlq : lq = xq.length) (hcp : lp ≤ cp) (hcq : lq ≤ cq) (t : TypeId) :
    Polys (w.alloc (.cells #[.slice Ap lp cp, .slice Aq lq cq] t)) (w.heap.size + 1) (some ⟨w.heap.size, 0, none⟩) [xp, xq] := by
  have hb : Below w.heap.size w (w.alloc (.cells #[.slice Ap lp cp, .slice Aq lq cq] t)) := (Below.refl _ _).alloc (Nat.le_refl _) _
  refine ⟨fun _ => ⟨_, rfl, by simp, fun j hj => ?_⟩⟩
  simp only [List.length_cons, List.length_nil] at hj
  obtain rfl | rfl : j = 0 ∨ j = 1 := by omega
  · exact ⟨Ap, lp, cp, by rw [add_plain, cell_of_row _ _ _ _ _ (0, 0) (heap_alloc_new w _)]; rfl, by simpa using hlp, hcp, (hp.below hb).more (by omega)⟩
  · exact ⟨Aq, lq, cq, by rw [add_plain, cell_of_row _ _ _ _ _ (0, 0) (heap_alloc_new w _)]; rfl, by simpa using hlq, hcq, (hq.below hb).more (by omega)⟩
set_option maxRecDepth 100000 in
theorem series_Over (Ap Aq : Option Addr) (lp cp lq cq : Nat) (xp xq : List Raw) (terms : Int) (w : World) (hp : Poly w w.heap.size Ap xp) (hq : Poly w w.heap.size Aq xq) (hlp : lp = xp.length) (hlq : lq = xq.length) (hcp : lp ≤ cp) (hcq : lq ≤ cq) :
    Calls Try.prog 20 #[.slice Ap lp cp, .slice Aq lq cq, .int .i64 terms] w fun e w' => ∃ v, e = .returned (.tuple #[v, .int .i64 (overR xp xq terms).2]) ∧ Told w' w.heap.size v (overR xp xq terms).1 ∧ Below w.heap.size w w' := by
  have HLP := Lib.hid hlp
  have HLQ := Lib.hid hlq
  have HCP := Lib.hid hcp
  have HCQ := Lib.hid hcq
  obtain ⟨E, hE⟩ : ∃ E, mayE terms [xp, xq] = E := ⟨_, rfl⟩
  have HM := Lib.hid hE
  obtain ⟨un, hun⟩ : ∃ un, unitAt xq 0 = un := ⟨_, rfl⟩
  have HU := Lib.hid hun
  have HO := Lib.hid (show overR xp xq terms = if E ≠ 0 then ([], E) else if un then toldZ (overZ (zAt xp) (zAt xq)) terms.toNat else ([], 340) by rw [overR, hE, hun])
  clear hlp hlq hcp hcq hE hun
  go_enter Try.func20, Try.ntmps20
  go_wp2_with fail
  have hps := Polys.two hp hq HLP.out HLQ.out HCP.out HCQ.out 22
  refine (series_may terms _ 2 2 [xp, xq] _ (by simpa using hps) rfl (by omega)).mono ?_
  rintro e w1 ⟨rfl, hb1⟩
  have hb1' : Below w.heap.size w w1 := ((Below.refl _ w).alloc (Nat.le_refl _) _).trans (hb1.mono (by simp))
  rw [HM.out]
  by_cases hE0 : E = 0
  · subst hE0
    obtain ⟨h0, h4, hr⟩ := mayE_zero HM.out
    obtain ⟨n, rfl⟩ : ∃ n : Nat, terms = (n : Int) := ⟨terms.toNat, by omega⟩
    have hp1 := (hp.below hb1').more hb1'.size
    have hq1 := (hq.below hb1').more hb1'.size
    have HSP := Lib.hid (right_len (hr xp (by simp))).2
    have HSQ := Lib.hid (right_len (hr xq (by simp))).2
    clear hr
    go_wp2_with fail
    refine (series_unit 0 Aq lq cq xq w1 hq1 HLQ.out).mono ?_
    rintro e w2 ⟨rfl, rfl⟩
    rw [HU.out]
    cases un with
    | false =>
      have HE := Lib.hid (show overR xp xq (n : Int) = ([], 340) by rw [HO.out]; rfl)
      clear HO
      go_wp2_with fail
      go_ret2
      rw [HE.out]
      exact ⟨_, rfl, Told.nil _ hb1'.size, hb1'⟩
    | true =>
      have HO2 := Lib.hid (show overR xp xq (n : Int) = toldZ (overZ (zAt xp) (zAt xq)) n by rw [HO.out]; rfl)
      clear HO
      have HN := Lib.hid (show n ≤ 4096 by omega)
      go_wp2_with fail
      refine (series_value Ap lp cp n xp w1 hp1 HLP.out HN.out HSP.out).mono ?_
      rintro e w2 ⟨gs2, rfl, hl2, hI2, hb2⟩
      go_wp2_with fail
      refine (series_value Aq lq cq n xq w2 ((hq1.below hb2).more hb2.size) HLQ.out HN.out HSQ.out).mono ?_
      rintro e w3 ⟨gs3, rfl, hl3, hI3, hb3⟩
      have HA := Lib.hid (zAt_small HSP.out hp.small)
      have HB := Lib.hid (zAt_small HSQ.out hq.small)
      have hlc := Lib.hid (lc_bound HN.out)
      go_wp2_with fail
      refine (series_over w1.heap.size w2.heap.size _ _ n (W64 ^ 4096) gs2 gs3 (zAt xp) (zAt xq) w3 (hI2.below hb3) hl2 hI3 hl3 HN.out (Nat.pow_pos W64_pos) hlc.out (fun k _ => HA.out k) (fun k _ => HB.out k)).mono ?_
      rintro e w4 ⟨gs4, rfl, hl4, hI4, hb4⟩
      have HLen := Lib.hid (overZ_len HN.out HA.out HB.out)
      go_wp2_with fail
      refine (series_told w3.heap.size n _ gs4 _ w4 hI4 hl4 HN.out HLen.out).mono ?_
      rintro e w5 ⟨v, rfl, ht, hb5⟩
      have hbz : Below w.heap.size w w5 := (((hb1'.trans (hb2.mono hb1'.size)).trans (hb3.mono (Nat.le_trans hb1'.size hb2.size))).trans (hb4.mono (Nat.le_trans (Nat.le_trans hb1'.size hb2.size) hb3.size))).trans (hb5.mono (Nat.le_trans (Nat.le_trans (Nat.le_trans hb1'.size hb2.size) hb3.size) hb4.size))
      have hsz : w.heap.size ≤ w4.heap.size := Nat.le_trans (Nat.le_trans (Nat.le_trans hb1'.size hb2.size) hb3.size) hb4.size
      go_wp2_with fail
      go_ret2
      rw [HO2.out]
      exact ⟨v, rfl, ht.since hsz, hbz⟩
  · have HE := Lib.hid (show overR xp xq terms = ([], E) by rw [HO.out, if_pos hE0])
    have tE : (E == 0) = false := beq_eq_false_iff_ne.2 hE0
    clear HO hE0
    go_wp2_with fail
    go_ret2
    rw [HE.out]
    exact ⟨_, rfl, Told.nil _ hb1'.size, hb1'⟩
/-- The polynomial 1. -/
def one1 : List Raw := [(false, [1])]
theorem Poly.one {w : World} {t1 t2 : TypeId} : Poly ((w.alloc (.cells #[.int .u64 1] t1)).alloc (.cells #[.bool false, .slice (some ⟨w.heap.size, 0, none⟩) 1 1] t2)) (w.heap.size + 2) (some ⟨w.heap.size + 1, 0, none⟩) one1 := by
  have e1 : (w.alloc (.cells #[.int .u64 1] t1)).heap.size = w.heap.size + 1 := by simp
  have h2 := heap_alloc_new (w.alloc (.cells #[.int .u64 1] t1)) (.cells #[.bool false, .slice (some ⟨w.heap.size, 0, none⟩) 1 1] t2)
  rw [e1] at h2
  have h1 : ((w.alloc (.cells #[.int .u64 1] t1)).alloc (.cells #[.bool false, .slice (some ⟨w.heap.size, 0, none⟩) 1 1] t2)).heap[w.heap.size]? = some (.cells #[.int .u64 1] t1) := by
    rw [Below.heap_alloc _ _ _ (by simp)]; exact heap_alloc_new w _
  refine ⟨fun _ => ⟨_, rfl, by simp, fun j hj => ?_⟩⟩
  obtain rfl : j = 0 := by simp [one1] at hj; omega
  refine ⟨some ⟨w.heap.size, 0, none⟩, 1, 1, ?_, ?_, rfl, Nat.le_refl _, Small.one (by rw [W64_eq]; omega), fun _ => ⟨_, rfl, by simp, fun k hk => ?_⟩⟩
  · rw [add_plain, cell_of_row _ _ _ _ _ (0, 0) h2]; rfl
  · rw [add_plain, cell_of_row _ _ _ _ _ (0, 0) h2]; rfl
  · obtain rfl : k = 0 := by simp [one1] at hk; omega
    rw [add_plain, cell_of_row _ _ _ _ _ (0, 0) h1]; rfl
set_option maxRecDepth 100000 in
theorem series_Inverse (Ap : Option Addr) (lp cp : Nat) (xp : List Raw) (terms : Int) (w : World) (hp : Poly w w.heap.size Ap xp) (hlp : lp = xp.length) (hcp : lp ≤ cp) :
    Calls Try.prog 18 #[.slice Ap lp cp, .int .i64 terms] w fun e w' => ∃ v, e = .returned (.tuple #[v, .int .i64 (overR one1 xp terms).2]) ∧ Told w' w.heap.size v (overR one1 xp terms).1 ∧ Below w.heap.size w w' := by
  have HLP := Lib.hid hlp
  have HCP := Lib.hid hcp
  clear hlp hcp
  go_enter Try.func18, Try.ntmps18
  go_wp2_with fail
  have hb : Below w.heap.size w ((w.alloc (.cells #[.int .u64 1] 33)).alloc (.cells #[.bool false, .slice (some ⟨w.heap.size, 0, none⟩) 1 1] 36)) := ((Below.refl _ w).alloc (Nat.le_refl _) _).alloc (by simp) _
  refine (series_Over _ Ap 1 1 lp cp one1 xp terms _ (by simpa using Poly.one (w := w) (t1 := 33) (t2 := 36)) ((hp.below hb).more hb.size) rfl HLP.out (Nat.le_refl _) HCP.out).mono ?_
  rintro e w1 ⟨v, rfl, ht, hb1⟩
  go_wp2_with fail
  go_ret2
  exact ⟨v, rfl, ht.since hb.size, hb.trans (hb1.mono hb.size)⟩
end Go.Proofs.Ytmnfokapdipcdaa
