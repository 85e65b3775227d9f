import Derived.Test.YtmnfokapdipcdaaProd
/- The laws' poly without first numbers; the laws SeriesBack, SeriesLaid. -/
namespace Go.Proofs.Ytmnfokapdipcdaa
open Go.RowKit Go.Deep
set_option maxHeartbeats 800000 in
set_option maxRecDepth 100000 in
theorem law_poly0 (A : Option Addr) (m c : Nat) (l : List Int) (w : World) (h1 : Nums w w.heap.size A l) (e1 : m = l.length) (hm : (m : Int) ≤ 9223372036854775807) :
    Calls Try.prog 29 #[.slice A m c, .slice none 0 0] w fun e w' => ∃ v, e = .returned v ∧ Told w' w.heap.size v ((trimI (rawL l [] (min l.length 12))).map rawOf) ∧ Below w.heap.size w w' := by
  have HL := Lib.hid e1
  obtain ⟨N, hN⟩ : ∃ N, min l.length 12 = N := ⟨_, rfl⟩
  rw [hN]
  have HN := Lib.hid (show N ≤ l.length ∧ N ≤ 12 ∧ (N = l.length ∨ N = 12) by omega)
  clear e1 hN
  go_enter Try.func29, Try.ntmps29
  have HM := Lib.hid hm
  clear hm
  have ho1 : IOwn w w.heap.size (.slice none 0 0) [] := IOwn.nil _ _
  have hb1 := Below.refl w.heap.size w
  go_upto_block 0 with (fail)
  go_cut [5] (fun t5 wx => IOwn wx w.heap.size t5 (rawL l ([] : List Int) N) ∧ Below w.heap.size w wx)
  case first =>
    go_wp2_with fail
    go_loopg [5, 6] 12 (fun gk t5 t6 wr => ∃ k : Nat, k + gk = 12 ∧ k ≤ N ∧ t6 = .int .i64 (k : Int) ∧ IOwn wr w.heap.size t5 (rawL l ([] : List Int) k) ∧ Below w.heap.size w wr)
    case atStart => exact ⟨0, by omega, by omega, rfl, by simpa [rawL] using ho1, hb1⟩
    case round =>
      clear ho1 hb1
      obtain ⟨k, hk, hkN, rfl, hown, hbel⟩ := hrel
      obtain ⟨A5, c5, rfl, hc5, _⟩ := hown.form
      have HK := Lib.hid (And.intro hk hkN)
      clear hc5
      by_cases hlt : k < N
      · have HKL := Lib.hid (show k < l.length by have := HN.out; omega)
        obtain ⟨ad, rfl, _, hc⟩ := (h1.below hbel).at_ HKL.out
        obtain ⟨x, hx⟩ : ∃ x, l.getD k 0 = x := ⟨_, rfl⟩
        rw [hx] at hc
        have hkm : (k : Int) < (m : Int) := by have := HL.out; have := HKL.out; omega
        have hkmN : k < m := by omega
        have hk12 : (k : Int) < 12 := by have := HN.out; omega
        have HS := Lib.hid (show rawL l [] (k + 1) = rawL l [] k ++ [x % 101 - 50] by rw [rawL_succ HKL.out, hx])
        have HLEN := Lib.hid (show (rawL l ([] : List Int) k).length + 1 ≤ 1000000 by
          unfold rawL
          rw [List.length_append, List.length_map, List.length_take]
          have e0 : ([] : List Int).length = 0 := rfl
          omega)
        obtain ⟨r, hr⟩ : ∃ r, x % 101 = r := ⟨_, rfl⟩
        have hrb : 0 ≤ r ∧ r < 101 := by omega
        have HR := Lib.hid hr
        have HLT := Lib.hid hlt
        obtain ⟨hr1, hr2⟩ := hrb
        clear hx hr hlt hk hkN
        go_wp2_with fail
        refine (kit_pick x 101 wr (by omega) (by omega)).mono ?_
        rintro e w2 ⟨rfl, rfl⟩
        rw [show ((101 : Nat) : Int) = 101 from rfl, HR.out]
        go_wp2_with (at_builtin; refine append_int1 (w0 := w) w.heap.size rfl _ _ rfl _ (rawL l ([] : List Int) k) (r - 50) (by rfl) (by rfl) hown hbel hbel.size HLEN.out ?_)
        intro v4 w4 ho4 hb4
        rw [← HR.out, ← HS.out] at ho4
        have hk := HK.out
        go_wp2_with fail
        go_roundg (gk - 1)
        case measure => have := HN.out; have := HLT.out; omega
        case rel => exact ⟨k + 1, by have := HN.out; have := HLT.out; omega, by have := HLT.out; omega, by go_num, ho4, hb4⟩
      · have hkNe : k = N := by omega
        subst hkNe
        by_cases hkl : k = l.length
        · have hkm : (m : Int) ≤ (k : Int) := by have := HL.out; omega
          clear hkl hlt
          go_wp2_with fail
          go_meet
          exact ⟨hown, hbel⟩
        · have hkm : (k : Int) < (m : Int) := by have := HL.out; have := HN.out; omega
          have hk12 : (12 : Int) ≤ (k : Int) := by have := HN.out; omega
          clear hkl hlt
          go_wp2_with fail
          go_meet
          exact ⟨hown, hbel⟩
  case rest =>
    obtain ⟨hown, hbel⟩ := hcut
    obtain ⟨L, hL⟩ : ∃ L, rawL l [] N = L := ⟨_, rfl⟩
    rw [hL] at hown
    have HLF := Lib.hid hL
    obtain ⟨A5, c5, rfl, hc5, hnums⟩ := hown.form
    have HLL := Lib.hid (show L.length ≤ 16 by
      rw [← hL]
      unfold rawL
      rw [List.length_append, List.length_map, List.length_take]
      have e0 : ([] : List Int).length = 0 := rfl
      have := HN.out
      omega)
    have HSM := Lib.hid (show ∀ x ∈ L, -1000 < x ∧ x < 1000 by
      intro x hx
      rw [← hL] at hx
      unfold rawL at hx
      rcases List.mem_append.1 hx with hx | hx
      · exact absurd hx (by simp)
      · obtain ⟨y, _, rfl⟩ := List.mem_map.1 hx
        omega)
    obtain ⟨t, ht⟩ : ∃ t, topZ (atL L) L.length = t := ⟨_, rfl⟩
    have HT0 := Lib.hid ht
    obtain ⟨n5, hn5⟩ : ∃ n5, L.length = n5 := ⟨_, rfl⟩
    have HN5 := Lib.hid hn5
    have hown' := Lib.hid hown
    rw [hn5] at hc5 ⊢
    have hc5I : (n5 : Int) ≤ (c5 : Int) := by omega
    have hn16 : (n5 : Int) ≤ 16 := by have := HLL.out; omega
    clear hL hn5 ht hown
    go_upto_block 2 with (fail)
    go_cut [5] (fun t5 wx => wc = wx ∧ t5 = .slice A5 t c5)
    case first =>
      go_wp2_with fail
      go_loopg [5] n5 (fun gk t5 wr => gk ≤ n5 ∧ wc = wr ∧ t5 = .slice A5 gk c5 ∧ topZ (atL L) gk = t)
      case atStart => exact ⟨Nat.le_refl _, rfl, rfl, by rw [← HN5.out]; exact HT0.out⟩
      case round =>
        obtain ⟨hk, rfl, rfl, htop⟩ := hrel
        have HT := Lib.hid htop
        clear htop
        by_cases h0 : gk = 0
        · subst h0
          have HE := Lib.hid (show t = 0 by rw [← HT.out]; rfl)
          go_wp2_with fail
          go_meet
          rw [HE.out]
          exact ⟨rfl, rfl⟩
        · obtain ⟨q, rfl⟩ : ∃ q, gk = q + 1 := ⟨gk - 1, by omega⟩
          obtain ⟨ad, rfl, _, hc⟩ := hnums.at_ (k := q) (by rw [HN5.out]; omega)
          obtain ⟨x, hx⟩ : ∃ x, L.getD q 0 = x := ⟨_, rfl⟩
          rw [hx] at hc
          have HX := Lib.hid hx
          have hqI : ((q + 1 : Nat) : Int) - 1 = (q : Int) := by omega
          have hq1 : (0 : Int) < ((q + 1 : Nat) : Int) := by omega
          have hqn : (q : Int) < ((q + 1 : Nat) : Int) := by omega
          have hql : (q : Int) ≤ (c5 : Int) := by omega
          obtain ⟨k, hkk⟩ : ∃ k, q + 1 = k := ⟨_, rfl⟩
          rw [hkk] at hk hqI hq1 hqn ⊢
          have HK := Lib.hid hkk
          have hkI : (k : Int) ≤ (c5 : Int) := by omega
          clear h0 hkk hx
          by_cases hz : x = 0
          · subst hz
            have HT2 := Lib.hid (show topZ (atL L) q = t by rw [← HT.out]; exact (if_pos HX.out).symm)
            go_wp2_with fail
            go_roundg q
            case measure => have := HK.out; omega
            case rel => exact ⟨by omega, rfl, rfl, HT2.out⟩
          · have HE := Lib.hid (show t = k by rw [← HT.out, ← HK.out]; exact if_neg (fun e => hz (by rw [← HX.out]; exact e)))
            have tz : (x == 0) = false := beq_eq_false_iff_ne.2 hz
            clear hz
            go_wp2_with fail
            go_meet
            rw [HE.out]
            exact ⟨rfl, rfl⟩
    case rest =>
      obtain ⟨rfl, rfl⟩ := hcut
      have htl : t ≤ L.length := by rw [← HT0.out]; exact topZ_le _ _
      have hpre := hown'.out.prefix htl
      have HPL := Lib.hid (show t = (L.take t).length by rw [List.length_take]; omega)
      have hnum2 : Nums wc wc.heap.size A5 (L.take t) := by
        obtain ⟨A6, c6, e6, _, h6⟩ := hpre.form
        injection e6 with e61
        subst e61
        exact h6
      have HTR := Lib.hid (show trimI L = L.take t by unfold trimI; rw [HT0.out])
      go_wp2_with fail
      refine (law_of A5 t c5 (L.take t) wc hnum2 HPL.out (by have := HLL.out; omega) (fun k hk => by
        have h1 := HSM.out ((L.take t).getD k 0) (by
          rw [List.getD_eq_getElem?_getD, List.getElem?_eq_getElem hk]
          exact List.mem_of_mem_take (List.getElem_mem _))
        omega)).mono ?_
      rintro e w6 ⟨v6, rfl, ht6, hb6⟩
      obtain ⟨A7, c7, rfl, _⟩ := ht6.poly
      have hl7 : ((L.take t).map rawOf).length = t := by rw [List.length_map]; exact HPL.out.symm
      rw [hl7] at ht6 ⊢
      clear hl7
      go_wp2_with fail
      go_ret
      rw [HLF.out, HTR.out]
      exact ⟨_, rfl, ht6.since hbel.size, hbel.trans (hb6.mono hbel.size)⟩
end Go.Proofs.Ytmnfokapdipcdaa
