import Derived.Test.YtonbhpadoplpkaaNat5
import Derived.Test.YtonbhpadoplpkaaInt2
import Derived.Test.YtonbhpadoplpkaaDivP
import Derived.Deep.RegionWith
/- The package divide: guess, take, give. -/
namespace Go.Proofs.Ytonbhpadoplpkaa
open Go.RowKit Go.Deep
theorem wrap_over {r t : Nat} (hr : r < W64) (ht : t < W64) (h : W64 ≤ r + t) : ∃ s : Nat, IntKind.u64.wrap ((r : Int) + (t : Int)) = (s : Int) ∧ s < t :=
  ⟨r + t - W64, by
    have hW := W64_eq
    rw [hW] at hr ht h
    rw [hW, IntKind.wrap_u64]
    omega, by omega⟩
theorem wrap_under {r t : Nat} (h : r + t < W64) : IntKind.u64.wrap ((r : Int) + (t : Int)) = ((r + t : Nat) : Int) := by
  rw [W64_eq] at h
  rw [IntKind.wrap_u64]
  omega
set_option maxHeartbeats 1000000 in
set_option maxRecDepth 100000 in
theorem divide_guess (hi lo next top below : Nat) (w : World) (_hhl : hi < W64) (hll : lo < W64) (hnl : next < W64) (htl : top < W64) (hbl : below < W64) (ht : 0 < top) :
    Calls Try.prog 74 #[.int .u64 (hi : Int), .int .u64 (lo : Int), .int .u64 (next : Int), .int .u64 (top : Int), .int .u64 (below : Int)] w fun e w' => ∃ g : Nat, e = .returned (.int .u64 (g : Int)) ∧ Guess hi lo next top below g ∧ ∃ q, w' = w.drewN q := by
  by_cases hge : top ≤ hi
  · have hgI : (top : Int) ≤ (hi : Int) := by omega
    have HGM := Lib.hid (Guess.most (lo := lo) (next := next) (below := below) hge)
    clear hge
    go_enter Try.func74, Try.ntmps74
    go_wp2_with fail
    go_ret
    exact ⟨W64 - 1, by rw [show ((W64 - 1 : Nat) : Int) = 18446744073709551615 by have := W64_eq; omega]; rfl, HGM.out, 0, rfl⟩
  · have hgI : ¬ (top : Int) ≤ (hi : Int) := by omega
    have hlt : hi < top := by omega
    have HST := Lib.hid (Guessing.start (below := below) ht hlt hll hnl)
    have HDIV := Lib.hid (bits_div64 hi lo top hll htl hlt)
    have HRL := Lib.hid (show (hi * W64 + lo) % top < W64 from Nat.lt_trans (Nat.mod_lt _ ht) htl)
    clear hge
    go_enter Try.func74, Try.ntmps74
    go_wp2_with fail
    refine (HDIV.out _).mono ?_
    rintro e w1 ⟨rfl, m0, rfl⟩
    obtain ⟨q0, hq0⟩ : ∃ q, (hi * W64 + lo) / top = q := ⟨_, rfl⟩
    obtain ⟨r0, hr0⟩ : ∃ q, (hi * W64 + lo) % top = q := ⟨_, rfl⟩
    rw [hq0, hr0] at HST
    rw [hr0] at HRL
    rw [hq0, hr0]
    clear hq0 hr0
    go_wp2_with fail
    go_loopw [11, 12] (fun t11 t12 wr => ∃ (q r : Nat), t11 = .int .u64 (q : Int) ∧ t12 = .int .u64 (r : Int) ∧ r < W64 ∧ Guessing hi lo next top below q r ∧ ∃ m, wr = w.drewN m) (fun t11 _ _ => (intOf t11).toNat)
    case atStart => exact ⟨q0, r0, rfl, rfl, HRL.out, HST.out, m0, rfl⟩
    case round =>
      obtain ⟨q, r, rfl, rfl, hr, hG, m, rfl⟩ := hrel
      have hql := hG.lt
      have hmul := Lib.hid (bits_mul64 q below hql hbl)
      have hsp := mul_split q below
      have HSTOP := Lib.hid hG.stop
      go_wp2_with fail
      refine (hmul.out _).mono ?_
      rintro e w1 ⟨rfl, rfl⟩
      obtain ⟨h, hh⟩ : ∃ h, mulHi q below = h := ⟨_, rfl⟩
      obtain ⟨l, hl⟩ : ∃ l, mulLo q below = l := ⟨_, rfl⟩
      rw [hh, hl] at hsp ⊢
      have hlW : l < W64 := hl ▸ mulLo_lt q below
      clear hh hl
      rcases Nat.lt_trichotomy h r with h1 | h1 | h1
      · have t1 : (h : Int) < (r : Int) := by omega
        clear h1
        go_wp2_with fail
        go_ret
        exact ⟨q, rfl, HSTOP.out, _, rfl⟩
      · rw [h1] at hsp ⊢
        clear h1
        by_cases h2 : l ≤ next
        · have t2 : (l : Int) ≤ (next : Int) := by omega
          clear h2
          go_wp2_with fail
          go_ret
          exact ⟨q, rfl, HSTOP.out, _, rfl⟩
        · have t2 : ¬ (l : Int) ≤ (next : Int) := by omega
          have hb : r * W64 + next < q * below := by rw [← hsp, Nat.mul_comm]; omega
          clear h2
          obtain ⟨hq1, hG2⟩ := hG.less hb
          have HG2 := Lib.hid hG2
          have hqI : (1 : Int) ≤ (q : Int) := by omega
          have hqW := lt_W64 hql
          by_cases hov : r + top < W64
          · have hw := wrap_under hov
            have hcmp : ¬ (((r + top : Nat) : Int) < (top : Int)) := by omega
            have HOV := Lib.hid hov
            clear hov
            go_wp2_with fail
            exact ⟨⟨q - 1, r + top, by congr 1; omega, rfl, HOV.out, HG2.out, _, rfl⟩, by simp [intOf]; omega⟩
          · obtain ⟨s, hw, hs⟩ := wrap_over hr htl (by omega)
            have hcmp : (s : Int) < (top : Int) := by omega
            clear hov
            go_wp2_with fail
            go_ret
            exact ⟨q - 1, by rw [show ((q - 1 : Nat) : Int) = (q : Int) - 1 by omega]; rfl, HG2.out.stop, _, rfl⟩
      · have t1 : ¬ (h : Int) < (r : Int) := by omega
        have t2 : ((h : Int) == (r : Int)) = false := beq_eq_false_iff_ne.2 (by omega)
        have hb : r * W64 + next < q * below := by
          have h5 := Nat.mul_le_mul_left W64 (show r + 1 ≤ h from h1)
          rw [Nat.mul_add, Nat.mul_one, Nat.mul_comm W64 r] at h5
          omega
        clear h1
        obtain ⟨hq1, hG2⟩ := hG.less hb
        have HG2 := Lib.hid hG2
        have hqI : (1 : Int) ≤ (q : Int) := by omega
        have hqW := lt_W64 hql
        by_cases hov : r + top < W64
        · have hw := wrap_under hov
          have hcmp : ¬ (((r + top : Nat) : Int) < (top : Int)) := by omega
          have HOV := Lib.hid hov
          clear hov
          go_wp2_with fail
          exact ⟨⟨q - 1, r + top, by congr 1; omega, rfl, HOV.out, HG2.out, _, rfl⟩, by simp [intOf]; omega⟩
        · obtain ⟨s, hw, hs⟩ := wrap_over hr htl (by omega)
          have hcmp : (s : Int) < (top : Int) := by omega
          clear hov
          go_wp2_with fail
          go_ret
          exact ⟨q - 1, by rw [show ((q - 1 : Nat) : Int) = (q : Int) - 1 by omega]; rfl, HG2.out.stop, _, rfl⟩
theorem Lim.off {w w' : World} {A : Option Addr} {xs : List Nat} {g : Nat} (h : Lim w w.heap.size A xs) (hg : w.grownBy w' (some g)) (hne : 0 < xs.length → ∀ ad, A = some ad → ad.block ≠ g) : Lim w' w'.heap.size A xs := by
  refine ⟨h.small, fun hn => ?_⟩
  obtain ⟨ad, ha, hb, hc⟩ := h.cells hn
  refine ⟨ad, ha, Nat.lt_of_lt_of_le hb hg.size, fun j hj => ?_⟩
  rw [cell_of_block (w := w)]
  · exact hc j hj
  · rw [block_of_add]
    exact hg.block _ hb (by intro e; injection e with e; exact hne hn ad ha e)
theorem drew_grown (w : World) (n : Nat) (k : Option Nat) : w.grownBy (w.drewN n) k := ⟨rfl, rfl, rfl, Nat.le_refl _, fun _ _ _ => rfl⟩
set_option maxHeartbeats 4000000 in
set_option maxRecDepth 100000 in
theorem divide_take (g p la ca c2 n q0 : Nat) (us : List Nat) (A2 : Option Addr) (vs : List Nat) (w : World) (hrow0 : Row w g us) (h2 : Lim w w.heap.size A2 vs) (hne : ∀ ad, A2 = some ad → ad.block ≠ g) (hvl : vs.length = n + 1) (hp : p + (n + 2) ≤ us.length) (hla : n + 2 ≤ la) (hul : us.length ≤ 1099511627776) (hq0W : q0 < W64) :
    Calls Try.prog 75 #[.slice (some ⟨g, p, none⟩) la ca, .slice A2 (n + 1) c2, .int .u64 (q0 : Int)] w fun e w' => ∃ (b : Nat) (us' : List Nat), e = .returned (.bool (decide (b = 1))) ∧ b ≤ 1 ∧ Row w' g us' ∧ us'.length = us.length ∧ us'.take p = us.take p ∧ us'.drop (p + (n + 2)) = us.drop (p + (n + 2)) ∧ val ((us'.drop p).take (n + 2)) + q0 * val vs = val ((us.drop p).take (n + 2)) + W64 ^ (n + 2) * b ∧ w.grownBy w' (some g) := by
  have nI : (n : Int) + 2 ≤ (la : Int) := by omega
  have nI2 : (n : Int) ≤ 1099511627776 := by omega
  have HVL := Lib.hid hvl
  have HP := Lib.hid hp
  have HUL := Lib.hid hul
  clear hvl hp hul hla
  go_enter Try.func75, Try.ntmps75
  go_wp2_with fail
  go_loopw [7, 8, 15] (fun t7 t8 t15 wr => ∃ (i b c : Nat) (os : List Nat), i ≤ n + 1 ∧ b ≤ 1 ∧ c < W64 ∧ t8 = .int .u64 (b : Int) ∧ t7 = .int .u64 (c : Int) ∧ t15 = .int .i64 (i : Int) ∧ Hid (os.length = us.length) ∧ Hid (Row wr g os) ∧ Hid (w.grownBy wr (some g)) ∧ Hid (os.take p = us.take p) ∧ Hid (os.drop (p + i) = us.drop (p + i)) ∧ Hid (val ((os.drop p).take i) + q0 * val (vs.take i) = val ((us.drop p).take i) + W64 ^ i * (b + c))) (fun _ _ t15 _ => n + 1 - (intOf t15).toNat)
  case atStart => exact ⟨0, 0, 0, us, by omega, by omega, W64_pos, rfl, rfl, rfl, Lib.hid rfl, Lib.hid hrow0, Lib.hid ⟨rfl, rfl, rfl, Nat.le_refl _, fun _ _ _ => rfl⟩, Lib.hid rfl, Lib.hid rfl, Lib.hid (by simp)⟩
  case round =>
    obtain ⟨i, b, c, os, hi, hb, hc, rfl, rfl, rfl, HO, HROW, HGR, HT, HD, HV⟩ := hrel
    have hil : p + (n + 2) ≤ os.length := by rw [HO.out]; exact HP.out
    have HLV := Lib.hid (h2.off HGR.out (fun _ => hne))
    by_cases hlt : i < n + 1
    · obtain ⟨ad, rfl, hb3, hcell⟩ := HLV.out.at_ (k := i) (by rw [HVL.out]; exact hlt)
      obtain ⟨y, hy⟩ : ∃ y, vs.getD i 0 = y := ⟨_, rfl⟩
      obtain ⟨u, hu⟩ : ∃ u, os.getD (p + i) 0 = u := ⟨_, rfl⟩
      have hyW : y < W64 := hy ▸ h2.small.getD i
      have huW : u < W64 := hu ▸ HROW.out.small.getD (p + i)
      have hu2 : (us.drop p).getD i 0 = u := by rw [getD_drop, ← getD_of_drop HD.out, hu]
      rw [hy] at hcell
      have hcu := HROW.out.cell (k := p + i) (by omega)
      have hfu := HROW.out.free (p + i)
      rw [hu] at hcu
      have hm1 := mulsub_step (mul_split q0 y) (add_split (mulLo q0 y) c 0)
      have hcW := mulsub_bound hq0W hyW hc hm1
      have hs1 := sub_split huW (addLo_lt (mulLo q0 y) c 0) hb
      have hb1 := subHi_le u (addLo (mulLo q0 y) c 0) b
      have HSET := Lib.hid (HROW.out.set (k := p + i) (x := subLo u (addLo (mulLo q0 y) c 0) b) (by omega) (subLo_lt _ _ _))
      have HGR2 := Lib.hid (grownBy_trans HGR.out (only_set wr ⟨g, p + i, none⟩ (.int .u64 (subLo u (addLo (mulLo q0 y) c 0) b : Nat))))
      have ha1 := add64_run0 (mulLo q0 y) c
      have ha2 := sub64_run u (addLo (mulLo q0 y) c 0) b hb
      have hmul := Lib.hid (bits_mul64 q0 y hq0W hyW)
      have hbc := lt_W64 hcW
      rw [Int.natCast_add] at hbc
      have HS := Lib.hid (show val (((os.set (p + i) (subLo u (addLo (mulLo q0 y) c 0) b)).drop p).take (i + 1)) + q0 * val (vs.take (i + 1)) = val ((us.drop p).take (i + 1)) + W64 ^ (i + 1) * (subHi u (addLo (mulLo q0 y) c 0) b + (mulHi q0 y + addHi (mulLo q0 y) c 0)) by
        have hV := HV.out
        rw [drop_set_add, val_take_set _ _ _ (by rw [List.length_drop]; omega), val_take_step vs, val_take_step (us.drop p), hy, hu2, Nat.pow_succ]
        exact alg_mulsub W64 hV hs1 hm1)
      have HL := Lib.hid (show (os.set (p + i) (subLo u (addLo (mulLo q0 y) c 0) b)).length = us.length by rw [List.length_set, HO.out])
      have HT2 := Lib.hid (show (os.set (p + i) (subLo u (addLo (mulLo q0 y) c 0) b)).take p = us.take p by rw [List.take_set_of_le (by omega), HT.out])
      have HD2 := Lib.hid (show (os.set (p + i) (subLo u (addLo (mulLo q0 y) c 0) b)).drop (p + (i + 1)) = us.drop (p + (i + 1)) by
        rw [List.drop_set_of_lt (by omega), ← Nat.add_assoc]; exact drop_more HD.out 1)
      have HY := Lib.hid hy
      have HU := Lib.hid hu
      have HU2 := Lib.hid hu2
      have hiI : (i : Int) < (n : Int) + 1 := by omega
      have hiI2 : (i : Int) < (la : Int) := by omega
      clear hm1 hs1 hy hu hu2
      go_wp2_with fail
      refine (hmul.out _).mono ?_
      rintro e w1 ⟨rfl, rfl⟩
      go_wp2_with fail
      exact ⟨⟨i + 1, _, _, _, by omega, hb1, hcW, rfl, by simp only [Int.natCast_add], by go_num, HL, HSET, HGR2, HT2, HD2, HS⟩, by simp [intOf]; omega⟩
    · obtain rfl : i = n + 1 := by omega
      obtain ⟨u, hu⟩ : ∃ u, os.getD (p + (n + 1)) 0 = u := ⟨_, rfl⟩
      have huW : u < W64 := hu ▸ HROW.out.small.getD _
      have hu2 : (us.drop p).getD (n + 1) 0 = u := by rw [getD_drop, ← getD_of_drop HD.out, hu]
      have hcu := HROW.out.cell (k := p + (n + 1)) (by omega)
      have hfu := HROW.out.free (p + (n + 1))
      rw [hu] at hcu
      have hs1 := sub_split huW hc hb
      have hb1 := subHi_le u c b
      have HSET := Lib.hid (HROW.out.set (k := p + (n + 1)) (x := subLo u c b) (by omega) (subLo_lt _ _ _))
      have HGR2 := Lib.hid (grownBy_trans HGR.out (only_set wr ⟨g, p + (n + 1), none⟩ (.int .u64 (subLo u c b : Nat))))
      have ha2 := sub64_run u c b hb
      have HS := Lib.hid (show val (((os.set (p + (n + 1)) (subLo u c b)).drop p).take (n + 2)) + q0 * val vs = val ((us.drop p).take (n + 2)) + W64 ^ (n + 2) * subHi u c b by
        have hV := HV.out
        rw [show vs.take (n + 1) = vs from List.take_of_length_le (by rw [HVL.out]; omega)] at hV
        rw [drop_set_add, show n + 2 = (n + 1) + 1 by rfl, val_take_set _ _ _ (by rw [List.length_drop]; omega), val_take_step (us.drop p), hu2, Nat.pow_succ]
        exact alg_sub W64 hV hs1)
      have HL := Lib.hid (show (os.set (p + (n + 1)) (subLo u c b)).length = us.length by rw [List.length_set, HO.out])
      have HT2 := Lib.hid (show (os.set (p + (n + 1)) (subLo u c b)).take p = us.take p by rw [List.take_set_of_le (by omega), HT.out])
      have HD2 := Lib.hid (show (os.set (p + (n + 1)) (subLo u c b)).drop (p + (n + 2)) = us.drop (p + (n + 2)) by
        rw [List.drop_set_of_lt (by omega)]; exact drop_more HD.out 1)
      have HU := Lib.hid (And.intro hu hu2)
      have hiI2 : (n : Int) + 1 < (la : Int) := by omega
      clear hs1 hu hu2
      obtain ⟨b1, hb1e⟩ : ∃ b1, subHi u c b = b1 := ⟨_, rfl⟩
      rw [hb1e] at ha2 hb1 HS
      clear hb1e
      have hcase : b1 = 0 ∨ b1 = 1 := by omega
      rcases hcase with rfl | rfl
      · rw [Int.natCast_zero] at ha2
        go_wp2_with fail
        go_ret
        exact ⟨0, _, rfl, by omega, HSET.out, HL.out, HT2.out, HD2.out, HS.out, HGR2.out⟩
      · rw [Int.natCast_one] at ha2
        go_wp2_with fail
        go_ret
        exact ⟨1, _, rfl, by omega, HSET.out, HL.out, HT2.out, HD2.out, HS.out, HGR2.out⟩
set_option maxHeartbeats 4000000 in
set_option maxRecDepth 100000 in
theorem divide_give (g p la ca c2 n : Nat) (us : List Nat) (A2 : Option Addr) (vs : List Nat) (w : World) (hrow0 : Row w g us) (h2 : Lim w w.heap.size A2 vs) (hne : ∀ ad, A2 = some ad → ad.block ≠ g) (hvl : vs.length = n + 1) (hp : p + (n + 2) ≤ us.length) (hla : n + 2 ≤ la) (hul : us.length ≤ 1099511627776) :
    Calls Try.prog 76 #[.slice (some ⟨g, p, none⟩) la ca, .slice A2 (n + 1) c2] w fun e w' => ∃ (v : Value) (c : Nat) (us' : List Nat), e = .returned v ∧ c ≤ 1 ∧ Row w' g us' ∧ us'.length = us.length ∧ us'.take p = us.take p ∧ us'.drop (p + (n + 2)) = us.drop (p + (n + 2)) ∧ val ((us'.drop p).take (n + 2)) + W64 ^ (n + 2) * c = val ((us.drop p).take (n + 2)) + val vs ∧ w.grownBy w' (some g) := by
  have nI : (n : Int) + 2 ≤ (la : Int) := by omega
  have nI2 : (n : Int) ≤ 1099511627776 := by omega
  have HVL := Lib.hid hvl
  have HP := Lib.hid hp
  have HUL := Lib.hid hul
  clear hvl hp hul hla
  go_enter Try.func76, Try.ntmps76
  go_wp2_with fail
  go_loopw [4, 8] (fun t4 t8 wr => ∃ (i c : Nat) (os : List Nat), i ≤ n + 1 ∧ c ≤ 1 ∧ t4 = .int .u64 (c : Int) ∧ t8 = .int .i64 (i : Int) ∧ Hid (os.length = us.length) ∧ Hid (Row wr g os) ∧ Hid (w.grownBy wr (some g)) ∧ Hid (os.take p = us.take p) ∧ Hid (os.drop (p + i) = us.drop (p + i)) ∧ Hid (val ((os.drop p).take i) + W64 ^ i * c = val ((us.drop p).take i) + val (vs.take i))) (fun _ t8 _ => n + 1 - (intOf t8).toNat)
  case atStart => exact ⟨0, 0, us, by omega, by omega, rfl, rfl, Lib.hid rfl, Lib.hid hrow0, Lib.hid ⟨rfl, rfl, rfl, Nat.le_refl _, fun _ _ _ => rfl⟩, Lib.hid rfl, Lib.hid rfl, Lib.hid (by simp)⟩
  case round =>
    obtain ⟨i, c, os, hi, hc, rfl, rfl, HO, HROW, HGR, HT, HD, HV⟩ := hrel
    have hil : p + (n + 2) ≤ os.length := by rw [HO.out]; exact HP.out
    have HLV := Lib.hid (h2.off HGR.out (fun _ => hne))
    by_cases hlt : i < n + 1
    · obtain ⟨ad, rfl, hb3, hcell⟩ := HLV.out.at_ (k := i) (by rw [HVL.out]; exact hlt)
      obtain ⟨y, hy⟩ : ∃ y, vs.getD i 0 = y := ⟨_, rfl⟩
      obtain ⟨u, hu⟩ : ∃ u, os.getD (p + i) 0 = u := ⟨_, rfl⟩
      have hyW : y < W64 := hy ▸ h2.small.getD i
      have huW : u < W64 := hu ▸ HROW.out.small.getD (p + i)
      have hu2 : (us.drop p).getD i 0 = u := by rw [getD_drop, ← getD_of_drop HD.out, hu]
      rw [hy] at hcell
      have hcu := HROW.out.cell (k := p + i) (by omega)
      have hfu := HROW.out.free (p + i)
      rw [hu] at hcu
      have hs1 := add_split u y c
      have hc1 := addHi_le huW hyW hc
      have HS := Lib.hid (show val (((os.set (p + i) (addLo u y c)).drop p).take (i + 1)) + W64 ^ (i + 1) * addHi u y c = val ((us.drop p).take (i + 1)) + val (vs.take (i + 1)) by
        have hV := HV.out
        rw [drop_set_add, val_take_set _ _ _ (by rw [List.length_drop]; omega), val_take_step vs, val_take_step (us.drop p), hy, hu2, Nat.pow_succ]
        exact alg_add W64 hV hs1)
      have HL := Lib.hid (show (os.set (p + i) (addLo u y c)).length = us.length by rw [List.length_set, HO.out])
      have HT2 := Lib.hid (show (os.set (p + i) (addLo u y c)).take p = us.take p by rw [List.take_set_of_le (by omega), HT.out])
      have HD2 := Lib.hid (show (os.set (p + i) (addLo u y c)).drop (p + (i + 1)) = us.drop (p + (i + 1)) by
        rw [List.drop_set_of_lt (by omega), ← Nat.add_assoc]; exact drop_more HD.out 1)
      have ha := add64_run u y c hc
      have r1 := later_cell hcell
      have r2 := later_cell hcu
      have hiI : (i : Int) < (n : Int) + 1 := by omega
      have hiI2 : (i : Int) < (la : Int) := by omega
      have HU := Lib.hid (And.intro hu hy)
      have HU2 := Lib.hid hu2
      clear hu hy hu2 hs1
      go_wp2_with fail
      have HGN := Lib.hid (fun m => grownBy_trans HGR.out (show wr.grownBy ((wr.drewN m).setCell ⟨g, p + i, none⟩ (.int .u64 (addLo u y c : Nat))) (some g) from grownBy_trans (drew_grown wr m _) (only_set (wr.drewN m) ⟨g, p + i, none⟩ (.int .u64 (addLo u y c : Nat)))))
      have HSN := Lib.hid (fun m => show Row ((wr.drewN m).setCell ⟨g, p + i, none⟩ (.int .u64 (addLo u y c : Nat))) g (os.set (p + i) (addLo u y c)) from (HROW.out.drewN m).set (by omega) (addLo_lt _ _ _))
      go_region_with (fail)
      all_goals
        go_wp2_with fail
        exact ⟨⟨i + 1, _, _, by omega, hc1, rfl, by go_num, HL, Lib.hid (HSN.out _), Lib.hid (HGN.out _), HT2, HD2, HS⟩, by simp [intOf]; omega⟩
    · obtain rfl : i = n + 1 := by omega
      obtain ⟨u, hu⟩ : ∃ u, os.getD (p + (n + 1)) 0 = u := ⟨_, rfl⟩
      have huW : u < W64 := hu ▸ HROW.out.small.getD _
      have hu2 : (us.drop p).getD (n + 1) 0 = u := by rw [getD_drop, ← getD_of_drop HD.out, hu]
      have hcu := HROW.out.cell (k := p + (n + 1)) (by omega)
      have hfu := HROW.out.free (p + (n + 1))
      rw [hu] at hcu
      have hs1 := add_split u 0 c
      have hc1 := addHi_le huW W64_pos hc
      have hwr : IntKind.u64.wrap ((u : Int) + (c : Int)) = ((addLo u 0 c : Nat) : Int) := by
        unfold addLo
        rw [IntKind.wrap_u64, W64_eq]
        omega
      have HSET := Lib.hid (HROW.out.set (k := p + (n + 1)) (x := addLo u 0 c) (by omega) (addLo_lt _ _ _))
      have HGR2 := Lib.hid (grownBy_trans HGR.out (only_set wr ⟨g, p + (n + 1), none⟩ (.int .u64 (addLo u 0 c : Nat))))
      have HS := Lib.hid (show val (((os.set (p + (n + 1)) (addLo u 0 c)).drop p).take (n + 2)) + W64 ^ (n + 2) * addHi u 0 c = val ((us.drop p).take (n + 2)) + val vs by
        have hV := HV.out
        rw [show vs.take (n + 1) = vs from List.take_of_length_le (by rw [HVL.out]; omega)] at hV
        rw [drop_set_add, show n + 2 = (n + 1) + 1 by rfl, val_take_set _ _ _ (by rw [List.length_drop]; omega), val_take_step (us.drop p), hu2, Nat.pow_succ]
        have h4 := alg_add W64 hV hs1
        rwa [Nat.mul_zero, Nat.add_zero] at h4)
      have HL := Lib.hid (show (os.set (p + (n + 1)) (addLo u 0 c)).length = us.length by rw [List.length_set, HO.out])
      have HT2 := Lib.hid (show (os.set (p + (n + 1)) (addLo u 0 c)).take p = us.take p by rw [List.take_set_of_le (by omega), HT.out])
      have HD2 := Lib.hid (show (os.set (p + (n + 1)) (addLo u 0 c)).drop (p + (n + 2)) = us.drop (p + (n + 2)) by
        rw [List.drop_set_of_lt (by omega)]; exact drop_more HD.out 1)
      have HU := Lib.hid (And.intro hu hu2)
      have hiI2 : (n : Int) + 1 < (la : Int) := by omega
      clear hs1 hu hu2
      go_wp2_with fail
      go_end0
      exact ⟨_, addHi u 0 c, _, rfl, hc1, HSET.out, HL.out, HT2.out, HD2.out, HS.out, HGR2.out⟩
end Go.Proofs.Ytonbhpadoplpkaa
