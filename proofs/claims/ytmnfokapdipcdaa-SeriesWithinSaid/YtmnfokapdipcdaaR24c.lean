import Derived.Test.YtmnfokapdipcdaaR24b
/- The package rosetteref24: told. -/
namespace Go.Proofs.Ytmnfokapdipcdaa
open Go.RowKit Go.Deep
set_option maxHeartbeats 400000 in
set_option maxRecDepth 100000 in
theorem r24_told (v : Value) (n base : Nat) (z : Nat → Int) (w : World) (h : NRow w base v (firstZ z n)) (hn : n ≤ 4096) (hz : ∀ k, k < n → (limbs (z k).natAbs).length ≤ 137438953472) :
    Calls Try.prog 58 #[v] w fun e w' => ∃ v', e = .returned (.tuple #[v', .int .i64 (toldZ z n).2]) ∧ Told w' w.heap.size v' (toldZ z n).1 ∧ Below w.heap.size w w' := by
  obtain ⟨A, c, rfl, hc⟩ := h.form
  rw [firstZ_len] at h hc ⊢
  have hnI : (n : Int) ≤ 4096 := by omega
  have HZ := Lib.hid hz
  obtain ⟨m, hm⟩ : ∃ m, topZ z n = m := ⟨_, rfl⟩
  have hmn : m ≤ n := by rw [← hm]; exact topZ_le z n
  have HM := Lib.hid hm
  clear hz hn hm
  go_enter Try.func58, Try.ntmps58
  go_upto_block 0 with (fail)
  go_cut [4] (fun t4 wx => Below w.heap.size w wx ∧ t4 = .int .i64 (m : Int))
  case first =>
    go_wp2_with fail
    go_loopg [4] n (fun gk t4 wr => gk ≤ n ∧ Below w.heap.size w wr ∧ t4 = .int .i64 (gk : Int) ∧ topZ z gk = m)
    case atStart => exact ⟨Nat.le_refl n, Below.refl _ _, rfl, HM.out⟩
    case round =>
      obtain ⟨hk, hbel, rfl, htop⟩ := hrel
      have HT := Lib.hid htop
      clear htop
      by_cases h0 : gk = 0
      · subst h0
        have HE := Lib.hid (show m = 0 by rw [← HT.out]; rfl)
        go_wp2_with fail
        go_meet
        rw [HE.out]
        exact ⟨hbel, rfl⟩
      · obtain ⟨q, rfl⟩ : ∃ q, gk = q + 1 := ⟨gk - 1, by omega⟩
        obtain ⟨g, c', b, u, hv, _, hc0, hc1, hc2, hnum⟩ := (h.below hbel).at_ (j := q) (by rw [firstZ_len]; omega)
        rw [firstZ_get z (by omega)] at hnum
        injection hv with hv1 hv2 hv3
        subst hv1 hv3
        have HZq := Lib.hid (HZ.out q (by omega))
        have hqI : ((q + 1 : Nat) : Int) - 1 = (q : Int) := by omega
        have hq1 : (0 : Int) < ((q + 1 : Nat) : Int) := by omega
        have hqn : (q : Int) < (n : Int) := by omega
        have hqnN : q < n := by omega
        obtain ⟨k, hkk⟩ : ∃ k, q + 1 = k := ⟨_, rfl⟩
        rw [hkk] at hk hqI hq1 ⊢
        have HK := Lib.hid hkk
        clear h0 hkk hv2
        go_wp2_with fail
        refine (num_zero _ (z q) wr hnum HZq.out).mono ?_
        rintro e w1 ⟨rfl, hb1⟩
        have hbel1 := hbel.trans (hb1.mono hbel.size)
        by_cases hzq : z q = 0
        · have HT2 := Lib.hid (show topZ z q = m by rw [← HT.out]; exact (if_pos hzq).symm)
          rw [decide_eq_true hzq]
          clear hzq
          go_wp2_with fail
          go_roundg q
          case measure => have := HK.out; omega
          case rel => exact ⟨by omega, hbel1, rfl, HT2.out⟩
        · have HE := Lib.hid (show m = k by rw [← HT.out, ← HK.out]; exact if_neg hzq)
          rw [decide_eq_false hzq]
          clear hzq
          go_wp2_with fail
          go_meet
          rw [HE.out]
          exact ⟨hbel1, rfl⟩
  case rest =>
    obtain ⟨hbc, rfl⟩ := hcut
    have hmI : (m : Int) ≤ 4096 := by omega
    go_wp2_with fail
    go_loopw [5, 6] (fun t5 t6 wr => ∃ k : Nat, k ≤ m ∧ t6 = .int .i64 (k : Int) ∧ Told wr w.heap.size t5 ((List.range k).map (fun j => rawOf (z j))) ∧ Below w.heap.size w wr ∧ (∀ j, j < k → nbits (z j).natAbs ≤ 262144)) (fun _ t6 _ => m - (intOf t6).toNat)
    case atStart => exact ⟨0, by omega, rfl, Told.nil _ hbc.size, hbc, fun j hj => by omega⟩
    case round =>
      obtain ⟨k, hk, rfl, htold, hbel, hbits⟩ := hrel
      have HB := Lib.hid hbits
      clear hbits
      by_cases hlt : k < m
      · obtain ⟨g, c', b, u, hv, _, hc0, hc1, hc2, hnum⟩ := (h.below hbel).at_ (j := k) (by rw [firstZ_len]; omega)
        rw [firstZ_get z (by omega)] at hnum
        injection hv with hv1 hv2 hv3
        subst hv1 hv3
        have HZk := Lib.hid (HZ.out k (by omega))
        have hkI : (k : Int) < (m : Int) := by omega
        have hknI : (k : Int) < (n : Int) := by omega
        have hkn : k < n := by omega
        obtain ⟨lr, top, hrec, hll, htop⟩ := htold
        have HLL := Lib.hid hll
        have HTOP := Lib.hid htop
        have HLR := Lib.hid (show lr.length ≤ 1000000 by rw [hll]; simp; omega)
        obtain ⟨xk, hxk⟩ : ∃ xk, (List.range k).map (fun j => rawOf (z j)) = xk := ⟨_, rfl⟩
        have HTS := Lib.hid (show (List.range (k + 1)).map (fun j => rawOf (z j)) = xk ++ [rawOf (z k)] by rw [told_succ, hxk])
        rw [hxk] at hrec HLL
        clear hv2 hll htop hxk
        go_wp2_with fail
        refine (num_tell _ (z k) wr hnum HZk.out).mono ?_
        rintro e w1 ⟨b1, A1, l1, c1, rfl, himp, hb1⟩
        have HI := Lib.hid himp
        have hbel1 := hbel.trans (hb1.mono hbel.size)
        obtain ⟨nb, hnb⟩ : ∃ nb : Nat, nbits (z k).natAbs = nb := ⟨_, rfl⟩
        have HNB := Lib.hid hnb
        rw [hnb]
        clear hnb himp hc0 hc1 hc2
        by_cases hlong : nb ≤ 262144
        · rw [decide_eq_true hlong]
          obtain ⟨hb1e, hown⟩ := HI.out (by rw [HNB.out]; exact hlong)
          have HBE := Lib.hid hb1e
          have HN2 := Lib.hid (show nbits (z k).natAbs ≤ 262144 by rw [HNB.out]; exact hlong)
          clear hlong hb1e
          go_upto_region 9 with (fail)
          have c0 : (w1.alloc (.cells #[.bool b1, .slice A1 l1 c1] 36)).cell? ⟨w1.heap.size, 0, none⟩ = some (.bool b1) := by rw [cell_of_row _ _ _ _ _ (0, 0) (heap_alloc_new w1 _)]; rfl
          have c1' : (w1.alloc (.cells #[.bool b1, .slice A1 l1 c1] 36)).cell? ⟨w1.heap.size, 1, none⟩ = some (.slice A1 l1 c1) := by rw [cell_of_row _ _ _ _ _ (0, 0) (heap_alloc_new w1 _)]; rfl
          have hbA : Below w1.heap.size w1 (w1.alloc (.cells #[.bool b1, .slice A1 l1 c1] 36)) := (Below.refl _ _).alloc (Nat.le_refl _) _
          generalize w1.heap.size = B0 at c0 c1' ⊢
          generalize w1.alloc (.cells #[.bool b1, .slice A1 l1 c1] 36) = W0 at c0 c1' hbA ⊢
          have hbW : Below wr.heap.size wr W0 := hb1.trans (hbA.mono hb1.size)
          have hrec0 := hrec.below (hbW.mono HTOP.out)
          have hown0 := (hown.below hbA).mono HTOP.out
          have htop0 : top ≤ W0.heap.size := Nat.le_trans HTOP.out hbW.size
          have hbel0 := hbel.trans (hbW.mono hbel.size)
          go_wp2_with (at_builtin; refine append_rec (w0 := w) w.heap.size top rfl _ _ rfl _ lr xk b1 (.slice A1 l1 c1) (limbs (z k).natAbs) (by rfl) (by rfl) hrec0 HLL.out hown0 htop0 hbel0 HLR.out ?_)
          intro v3 w3 lr3 hr3 hl3 hb3 _
          rw [HBE.out, show (decide (z k < 0), limbs (z k).natAbs) = rawOf (z k) from rfl, ← HTS.out] at hr3
          have hl3 : lr3.length = ((List.range (k + 1)).map (fun j => rawOf (z j))).length := by rw [HTS.out, hl3]; simp
          go_wp2_with fail
          exact ⟨⟨k + 1, by omega, by go_num, ⟨lr3, _, hr3, hl3, Nat.le_refl _⟩, hb3, fun j hj => by
            by_cases hjk : j = k
            · subst hjk; exact HN2.out
            · exact HB.out j (by omega)⟩, by simp [intOf]; omega⟩
        · rw [decide_eq_false hlong]
          have HE := Lib.hid (toldZ_long (z := z) (n := n) (i := k) (by rw [HM.out]; exact hlt) (by rw [HNB.out]; omega))
          clear hlong
          go_wp2_with fail
          go_ret2
          rw [HE.out]
          exact ⟨_, rfl, Told.nil _ (by simp; have := hbel1.size; omega), hbel1.alloc hbel1.size _⟩
      · obtain rfl : k = m := by omega
        have HE := Lib.hid (toldZ_ok (z := z) (n := n) (fun j hj => HB.out j (by rw [HM.out] at hj; exact hj)))
        go_wp2_with fail
        go_ret2
        rw [HE.out, HM.out]
        exact ⟨_, rfl, htold, hbel⟩
end Go.Proofs.Ytmnfokapdipcdaa
