import Derived.Test.YtmnfokapdipcdaaSer3
import Derived.Test.YtmnfokapdipcdaaRec
import Derived.Test.YtmnfokapdipcdaaLaw2
/- The package series: told. -/
namespace Go.Proofs.Ytmnfokapdipcdaa
open Go.RowKit Go.Deep
theorem toldZ_ok {z : Nat → Int} {n : Nat} (h : ∀ i, i < topZ z n → nbits (z i).natAbs ≤ 262144) : toldZ z n = ((List.range (topZ z n)).map (fun i => rawOf (z i)), 0) := by
  unfold toldZ
  rw [if_neg]
  simp only [List.any_eq_true, List.mem_range, decide_eq_true_eq, not_exists, not_and]
  intro i hi
  have := h i hi
  omega
theorem toldZ_long {z : Nat → Int} {n i : Nat} (hi : i < topZ z n) (h : 262144 < nbits (z i).natAbs) : toldZ z n = ([], 3) := by
  unfold toldZ
  rw [if_pos]
  simp only [List.any_eq_true, List.mem_range, decide_eq_true_eq]
  exact ⟨i, hi, h⟩
theorem told_succ (z : Nat → Int) (i : Nat) : (List.range (i + 1)).map (fun j => rawOf (z j)) = (List.range i).map (fun j => rawOf (z j)) ++ [rawOf (z i)] := by
  rw [List.range_succ, List.map_append]; rfl
set_option maxRecDepth 100000 in
theorem series_told (G n base : Nat) (gs : List Nat) (z : Nat → Int) (w : World) (hI : Ints w base G gs n z) (hl : gs.length = n) (hn : n ≤ 4096) (hz : ∀ k, k < n → (limbs (z k).natAbs).length ≤ 549755813888) :
    Calls Try.prog 52 #[.slice (some ⟨G, 0, none⟩) n n] w fun e w' => ∃ v, e = .returned (.tuple #[v, .int .i64 (toldZ z n).2]) ∧ Told w' w.heap.size v (toldZ z n).1 ∧ Below w.heap.size w w' := by
  have hnI : (n : Int) ≤ 4096 := by omega
  have HGS := Lib.hid hl
  obtain ⟨m, hm⟩ : ∃ m, topZ z n = m := ⟨_, rfl⟩
  have hmn : m ≤ n := by rw [← hm]; exact topZ_le z n
  have HM := Lib.hid hm
  clear hl hn hm
  go_enter Try.func52, Try.ntmps52
  go_upto_block 0 with (fail)
  go_cut [0] (fun t0 wx => w = wx ∧ t0 = .slice (some ⟨G, 0, none⟩) m n)
  case first =>
    go_wp2_with fail
    go_loopg [0] n (fun gk t0 wr => gk ≤ n ∧ w = wr ∧ t0 = .slice (some ⟨G, 0, none⟩) gk n ∧ topZ z gk = m)
    case atStart => exact ⟨Nat.le_refl n, rfl, rfl, HM.out⟩
    case round =>
      obtain ⟨hk, rfl, rfl, htop⟩ := hrel
      have HT := Lib.hid htop
      clear htop
      by_cases h0 : gk = 0
      · subst h0
        have HE := Lib.hid (show m = 0 by rw [← HT.out]; rfl)
        go_wp2_with fail
        go_meet
        rw [HE.out]
        exact ⟨rfl, rfl⟩
      · obtain ⟨q, rfl⟩ : ∃ q, gk = q + 1 := ⟨gk - 1, by omega⟩
        have hcq := hI.cell (i := q) (by rw [HGS.out]; omega)
        have hiq := hI.at_ q (by rw [HGS.out]; omega)
        unfold ptr at hcq
        obtain ⟨gq, hgq⟩ : ∃ gq, gs.getD q 0 = gq := ⟨_, rfl⟩
        rw [hgq] at hcq hiq
        have HZ := Lib.hid (hz q (by omega))
        have hqI : ((q + 1 : Nat) : Int) - 1 = (q : Int) := by omega
        have hq1 : (0 : Int) < ((q + 1 : Nat) : Int) := by omega
        have hqn : (q : Int) < ((q + 1 : Nat) : Int) := by omega
        obtain ⟨k, hkk⟩ : ∃ k, q + 1 = k := ⟨_, rfl⟩
        rw [hkk] at hk hqI hq1 hqn ⊢
        have HK := Lib.hid hkk
        clear hgq h0 hkk
        go_wp2_with fail
        refine (int_sign gq (z q) w hiq (by have := HZ.out; omega)).mono ?_
        rintro e w1 ⟨rfl, rfl⟩
        by_cases hzq : z q = 0
        · have HT2 := Lib.hid (show topZ z q = m by rw [← HT.out]; exact (if_pos hzq).symm)
          rw [show (z q).sign = 0 by rw [hzq]; rfl]
          clear hzq
          go_wp2_with fail
          go_roundg q
          case measure => have := HK.out; omega
          case rel => exact ⟨by omega, rfl, rfl, HT2.out⟩
        · have HE := Lib.hid (show m = k by rw [← HT.out, ← HK.out]; exact if_neg hzq)
          have hs : ((z q).sign == 0) = false := beq_eq_false_iff_ne.2 (fun e => hzq (Int.sign_eq_zero_iff_zero.1 e))
          clear hzq
          go_wp2_with fail
          go_meet
          rw [HE.out]
          exact ⟨rfl, rfl⟩
  case rest =>
    obtain ⟨rfl, rfl⟩ := hcut
    have hmk := make_recs m (by omega)
    have hmI : (m : Int) ≤ 4096 := by omega
    go_wp2_with fail
    have HTOP := Lib.hid HM.out
    go_loopw [32] (fun t32 wr => ∃ (i : Nat) (l : List (Bool × Value)), i ≤ m ∧ t32 = .int .i64 (i : Int) ∧ l.length = m ∧ Recs wr w.heap.size wr.heap.size (.slice (some ⟨w.heap.size, 0, none⟩) m m) l ((List.range i).map (fun j => rawOf (z j))) ∧ (∀ j, i ≤ j → j < m → l.getD j rec0 = rec0) ∧ (∀ j, j < i → nbits (z j).natAbs ≤ 262144) ∧ Below w.heap.size w wr) (fun t32 _ => m - (intOf t32).toNat)
    case atStart =>
      refine ⟨0, List.replicate m rec0, by omega, rfl, by simp, ?_, fun j _ hj => by simp [hj], fun j hj => by omega, (Below.refl _ _).alloc (Nat.le_refl _) _⟩
      exact (Recs.made w (Nat.le_refl _) m (by omega)).rise (by simp)
    case round =>
      obtain ⟨wo, hwo⟩ : ∃ wo : World, wo = wr := ⟨_, rfl⟩
      subst hwo
      obtain ⟨i, l, hi, rfl, hl, hrec, hrest, hbits, hbel⟩ := hrel
      have HRest := Lib.hid hrest
      have HBits := Lib.hid hbits
      have HL := Lib.hid hl
      clear hrest hbits hl
      by_cases hlt : i < m
      · have hIo := hI.below (hbel.mono (Nat.le_refl _))
        have hci := hIo.cell (i := i) (by rw [HGS.out]; omega)
        have hii := hIo.at_ i (by rw [HGS.out]; omega)
        unfold ptr at hci
        obtain ⟨gi, hgi⟩ : ∃ gi, gs.getD i 0 = gi := ⟨_, rfl⟩
        rw [hgi] at hci hii
        have HZ := Lib.hid (hz i (by omega))
        have HGI := Lib.hid hgi
        obtain ⟨sg, hsg⟩ : ∃ sg, (z i).sign = sg := ⟨_, rfl⟩
        have HSG := Lib.hid hsg
        have HIL := Lib.hid (show i < l.length by rw [HL.out]; exact hlt)
        have HXL := Lib.hid (show ((List.range i).map (fun j => rawOf (z j))).length = i by simp)
        clear hgi hsg
        have hr0 := HRest.out i (Nat.le_refl _) hlt
        have hc0 := hrec.cell0 HIL.out
        rw [hr0] at hc0
        have hf0 := hrec.free HL.out.symm (i * 2)
        have hs1 := hrec.sign HL.out.symm (by rw [HXL.out]; exact Nat.le_refl _) HIL.out (decide (sg < 0)) hr0
        have HR0 := Lib.hid hr0
        clear hr0
        unfold rec0 at hc0 hs1
        simp only at hc0 hs1
        go_wp2_with fail
        refine (int_bitlen gi (z i) wo hii (by have := HZ.out; omega)).mono ?_
        rintro e w1 ⟨rfl, rfl⟩
        obtain ⟨nb, hnb⟩ : ∃ nb, nbits (z i).natAbs = nb := ⟨_, rfl⟩
        rw [hnb]
        have HNB := Lib.hid hnb
        clear hnb
        by_cases hlong : 262144 < nb
        · have HE := Lib.hid (toldZ_long (z := z) (n := n) (i := i) (by rw [HTOP.out]; exact hlt) (by rw [HNB.out]; exact hlong))
          have hlI : (262144 : Int) < (nb : Int) := by omega
          clear hlong
          go_wp2_with fail
          go_ret2
          rw [HE.out]
          exact ⟨_, rfl, Told.nil _ hbel.size, hbel⟩
        · have hlI : (nb : Int) ≤ 262144 := by omega
          have HB2 := Lib.hid (show nbits (z i).natAbs ≤ 262144 by rw [HNB.out]; omega)
          clear hlong
          go_wp2_with fail
          refine (int_sign gi (z i) wo hii (by have := HZ.out; omega)).mono ?_
          rintro e w1 ⟨rfl, rfl⟩
          rw [HSG.out]
          go_wp2_with fail
          have hii1 := (hI.at_ i (by rw [HGS.out]; omega)).below (hbel.setCell (p := ⟨w.heap.size, i * 2, none⟩) (Nat.le_refl _) (.bool (decide (sg < 0))))
          rw [HGI.out] at hii1
          have hb1 := hbel.setCell (p := ⟨w.heap.size, i * 2, none⟩) (Nat.le_refl _) (.bool (decide (sg < 0)))
          have HSB := Lib.hid (show decide (sg < 0) = decide (z i < 0) by rw [← HSG.out, decide_eq_decide]; exact Int.sign_neg_iff)
          obtain ⟨b, hb⟩ : ∃ b, decide (sg < 0) = b := ⟨_, rfl⟩
          rw [hb] at hs1 hb1 hii1 HSB ⊢
          generalize hW1 : wo.setCell ⟨w.heap.size, i * 2, none⟩ (.bool b) = W1 at hs1 hb1 hii1 ⊢
          have hsz1 : W1.heap.size = wo.heap.size := by rw [← hW1]; simp
          clear hW1 hc0 hf0 hci hii hb hrec
          refine (int_bits gi (z i) W1 hii1 (by have := HZ.out; omega)).mono ?_
          rintro e w2 ⟨A2, rfl, hlim2, hb2⟩
          obtain ⟨ms, hms⟩ : ∃ ms, limbs (z i).natAbs = ms := ⟨_, rfl⟩
          have hZl := HZ.out
          rw [hms] at hlim2 hZl ⊢
          have HMS := Lib.hid hms
          clear hms
          have hmI2 : (ms.length : Int) ≤ 549755813888 := by omega
          clear hZl
          have hs2 := hs1.below (hb2.mono (by omega))
          have hbw2 := hb1.trans (hb2.mono hb1.size)
          have hsz2 := hb2.size
          have HSL := Lib.hid (show (l.set i (b, Value.slice none 0 0)).length = m by rw [List.length_set, HL.out])
          have HNN := Lib.hid (hs2.noNum HSL.out.symm (fun j hj hjl => by
            rw [HXL.out] at hj
            by_cases hji : j = i
            · subst hji; rw [getD_set_eq _ HIL.out]; exact ⟨none, 0, 0, rfl⟩
            · rw [getD_set_ne _ hji, HRest.out j hj (by rw [← HSL.out]; exact hjl)]; exact ⟨none, 0, 0, rfl⟩))
          have hE2 : Ext (· = w.heap.size) w2 w2 := Ext.refl _ _ (fun j hj _ => by subst hj; exact HNN.out)
          clear hs1 hii1
          go_wp2_with fail
          go_loopw [50] (fun t50 wi => ∃ (q : Nat) (v : Value), q ≤ ms.length ∧ t50 = .int .i64 (q : Int) ∧ Own wi w2.heap.size v (ms.take q) ∧ Recs wi w.heap.size wo.heap.size (.slice (some ⟨w.heap.size, 0, none⟩) m m) (l.set i (b, v)) ((List.range i).map (fun j => rawOf (z j))) ∧ Ext (· = w.heap.size) w2 wi) (fun t50 _ => ms.length - (intOf t50).toNat)
          case atStart => exact ⟨0, _, by omega, rfl, by rw [List.take_zero]; exact Own.nil _ _, hs2, hE2⟩
          case round =>
            obtain ⟨q, v, hq, rfl, hown, hrec, hext⟩ := hrel
            by_cases hqm : q < ms.length
            · obtain ⟨ad, rfl, hbA, hcA⟩ := ((hlim2.ext (Nat.le_refl _) hext)).at_ hqm
              obtain ⟨x, hx⟩ : ∃ x, ms.getD q 0 = x := ⟨_, rfl⟩
              have hxs : x < W64 := hx ▸ hlim2.small.getD q
              rw [hx] at hcA
              have HSET := Lib.hid (show (l.set i (b, v)).length = m by rw [List.length_set, HL.out])
              have HI2 := Lib.hid (show i < (l.set i (b, v)).length by rw [HSET.out]; exact hlt)
              have hcv := hrec.cell1 HI2.out
              rw [getD_set_eq _ HIL.out] at hcv
              simp only at hcv
              have HLE := Lib.hid (show (ms.take q).length + 1 ≤ 17592186044416 by rw [List.length_take]; omega)
              have HTS := Lib.hid (show ms.take (q + 1) = ms.take q ++ [x] by rw [List.take_succ_eq_append_getElem hqm, ← hx]; simp [hqm])
              have hszi := hext.size
              have HSZ := Lib.hid (show wo.heap.size ≤ w2.heap.size by omega)
              clear hx
              go_wp2_with (at_builtin; refine append_one (w0 := wr) w2.heap.size rfl _ _ rfl v (ms.take q) x (by rfl) (by rfl) hxs hown (Below.refl _ _) hext.size HLE.out ?_)
              intro v1 w3 hown1 hb3 _
              have hrec3 := hrec.below (hb3.mono HSZ.out)
              obtain ⟨A1, l1, c1, rfl⟩ := hown1.slice
              have hcv3 := hrec3.cell1 HI2.out
              rw [getD_set_eq _ HIL.out] at hcv3
              simp only at hcv3
              have hfv3 := hrec3.free HSET.out.symm (i * 2 + 1)
              have hat := hrec3.at_
              have hrec4 := hrec3.limbs HSET.out.symm (by rw [HXL.out]; exact Nat.le_refl _) HI2.out (.slice A1 l1 c1) (getD_set_eq _ HIL.out _ _)
              rw [List.set_set] at hrec4
              have hown4 := hown1.far (p := ⟨w.heap.size, i * 2 + 1, none⟩) (x := .slice A1 l1 c1) (fun g hg => by have := (hown1.own.lt g hg).1; show ¬ g = w.heap.size; omega)
              rw [← HTS.out] at hown4
              have hext4 : Ext (· = w.heap.size) w2 (w3.setCell ⟨w.heap.size, i * 2 + 1, none⟩ (.slice A1 l1 c1)) := by
                refine ⟨hb3.os.trans hext.os, hb3.tape.trans hext.tape, hb3.output.trans hext.output, by simpa using Nat.le_trans hext.size hb3.size, fun j hj hne => ?_, fun j hj _ => by subst hj; exact HNN.out⟩
                rw [Below.heap_setCell _ _ _ j (by simpa using hne), hb3.block j hj, hext.block j hj hne]
              clear hcv hrec
              go_wp2_with fail
              exact ⟨⟨q + 1, _, by omega, by go_num, hown4, hrec4, hext4⟩, by simp [intOf]; omega⟩
            · obtain rfl : q = ms.length := by omega
              have HT := Lib.hid (List.take_length (l := ms))
              rw [HT.out] at hown
              have hgb : Below w.heap.size w wr := ((Ext.of_below hbw2 : Ext Nix w w2).hidden hext (Nat.le_refl _)).below
              have hpush := hrec.push (top' := wr.heap.size) (b := b) (u := v) (ys := ms) (by rw [HXL.out]; exact getD_set_eq _ HIL.out _ _) (by rw [HXL.out, List.length_set]; exact HIL.out) (hown.mono (by omega)) (by have := hext.size; omega) (fun g hg => (hown.own.lt g hg).2)
              have HRAW := Lib.hid (show (List.range i).map (fun j => rawOf (z j)) ++ [(b, ms)] = (List.range (i + 1)).map (fun j => rawOf (z j)) by rw [told_succ, rawOf, HMS.out, ← HSB.out])
              rw [HRAW.out] at hpush
              have HSET := Lib.hid (show (l.set i (b, v)).length = m by rw [List.length_set, HL.out])
              go_wp2_with fail
              exact ⟨⟨i + 1, _, by omega, by go_num, HSET.out, hpush, fun j hj hjm => by rw [getD_set_ne _ (by omega)]; exact HRest.out j (by omega) hjm, fun j hj => by
                by_cases hji : j = i
                · subst hji; exact HB2.out
                · exact HBits.out j (by omega), hgb⟩, by simp [intOf]; omega⟩
      · obtain rfl : i = m := by omega
        have HE := Lib.hid (toldZ_ok (z := z) (n := n) (fun j hj => HBits.out j (by rw [HTOP.out] at hj; exact hj)))
        go_wp2_with fail
        go_ret2
        rw [HE.out, HTOP.out]
        exact ⟨_, rfl, ⟨l, _, hrec, by simp [HL.out], Nat.le_refl _⟩, hbel⟩
end Go.Proofs.Ytmnfokapdipcdaa
