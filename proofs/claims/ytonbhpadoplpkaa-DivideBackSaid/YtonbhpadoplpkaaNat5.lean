/- The contracts of package big's sizes (nat.go), on: one digit of a long division. -/
import Derived.Test.YtonbhpadoplpkaaNat3
import Derived.Test.YtonbhpadoplpkaaNat
import Derived.Deep.CutBlock
import Derived.Deep.AppendLies
namespace Go.Proofs.Ytonbhpadoplpkaa
open Go.RowKit Go.Deep

/-! ### windows of a row -/
theorem drop_set_add (os : List Nat) (p i d : Nat) : (os.set (p + i) d).drop p = (os.drop p).set i d := by
  rw [List.drop_set, if_neg (by omega), Nat.add_sub_cancel_left]
theorem getD_of_drop {os us : List Nat} {k : Nat} (h : os.drop k = us.drop k) : os.getD k 0 = us.getD k 0 := by
  have := congrArg (fun l => l.getD 0 0) h
  simpa using this
theorem drop_more {os us : List Nat} {k : Nat} (h : os.drop k = us.drop k) (j : Nat) : os.drop (k + j) = us.drop (k + j) := by
  rw [← List.drop_drop, ← List.drop_drop, h]
theorem getD_drop (us : List Nat) (p i : Nat) : (us.drop p).getD i 0 = us.getD (p + i) 0 := by simp
/-- The guess by the highest limbs is not too small. -/
theorem guess_ge {win vs : List Nat} (hw : Small win) {n : Nat} (hv : vs.length = n + 1) (hwl : win.length = n + 2) :
    (val win / val vs) * vs.getD n 0 ≤ win.getD n 0 + W64 * win.getD (n + 1) 0 := by
  have h1 := Nat.div_mul_le_self (val win) (val vs)
  generalize val win / val vs = Q at *
  have e1 : val win = val (win.take n) + W64 ^ n * (win.getD n 0 + W64 * win.getD (n + 1) 0) := by
    have h3 := val_split win n (by omega)
    have h4 := val_drop_step win n (by omega)
    have h5 := val_drop_step win (n + 1) (by omega)
    rw [List.drop_of_length_le (i := n + 1 + 1) (by omega), val_nil, Nat.mul_zero, Nat.add_zero] at h5
    rw [h3, h4, h5, Nat.add_zero]
  have e2 : val vs = val (vs.take n) + W64 ^ n * vs.getD n 0 := by
    have h3 := val_take_step vs n
    rwa [List.take_of_length_le (by omega)] at h3
  have h6 := val_lt (hw.take n)
  rw [List.length_take, Nat.min_eq_left (by omega)] at h6
  rw [e1, e2] at h1
  generalize win.getD n 0 + W64 * win.getD (n + 1) 0 = t at *
  generalize vs.getD n 0 = v at *
  generalize val (vs.take n) = a at *
  generalize val (win.take n) = b at *
  generalize W64 ^ n = P at *
  rcases Nat.lt_or_ge t (Q * v) with h | h
  · exfalso
    have h7 := Nat.mul_le_mul_left P (show t + 1 ≤ Q * v from h)
    have h8 : Q * (a + P * v) = Q * a + P * (Q * v) := by grind
    rw [Nat.mul_add, Nat.mul_one] at h7
    have : 0 ≤ Q * a := Nat.zero_le _
    omega
  · exact h

theorem alg_sub (W : Nat) {a1 a2 qv P d c b u b' : Nat} (h : a1 + qv = a2 + P * (b + c)) (hs : d + c + b = u + W * b') : a1 + P * d + qv = a2 + P * u + P * W * b' := by
  have h5 : P * (d + c + b) = P * (u + W * b') := by rw [hs]
  grind
theorem alg_mulsub (W : Nat) {a1 a2 a3 q0 P d l b u b' c c' y : Nat} (h : a1 + q0 * a3 = a2 + P * (b + c)) (hs : d + l + b = u + W * b') (hm : l + W * c' = q0 * y + c) : a1 + P * d + q0 * (a3 + P * y) = a2 + P * u + P * W * (b' + c') := by
  have h5 : P * (d + l + b) = P * (u + W * b') := by rw [hs]
  have h6 : P * (l + W * c') = P * (q0 * y + c) := by rw [hm]
  grind
theorem alg_add (W : Nat) {a1 a2 a3 P d c u y c' : Nat} (h : a1 + P * c = a2 + a3) (hs : d + W * c' = u + y + c) : a1 + P * d + P * W * c' = a2 + P * u + (a3 + P * y) := by
  have h5 : P * (d + W * c') = P * (u + y + c) := by rw [hs]
  grind
theorem only_set (w : World) (p : Addr) (u : Value) : w.grownBy (w.setCell p u) (some p.block) :=
  ⟨rfl, rfl, rfl, by simp [World.setCell], fun i _ hne => Below.heap_setCell w p u i (fun e => hne (by rw [e]))⟩
theorem mulsub_step {lo hi c lo2 c2 y q : Nat} (h1 : lo + W64 * hi = q * y) (h2 : lo2 + W64 * c2 = lo + c + 0) : lo2 + W64 * (hi + c2) = q * y + c := by
  rw [Nat.mul_add]; omega
theorem mulsub_bound {q y c lo2 d : Nat} (hq : q < W64) (hy : y < W64) (hc : c < W64) (h : lo2 + W64 * d = q * y + c) : d < W64 := by
  exact limb_mul_bound (o := 0) hq hy W64_pos hc (s := lo2) (by omega)

set_option maxHeartbeats 4000000 in
set_option maxRecDepth 100000 in
theorem big_digit (g p cu : Nat) (us : List Nat) (A2 : Option Addr) (c2 : Nat) (vs : List Nat) (w : World) (hrow0 : Row w g us) (h2 : Lim w g A2 vs) {n : Nat} (hvl : vs.length = n + 1) (hp : p + (n + 2) ≤ us.length) (hul : us.length ≤ 1099511627776)
    (hwin : val ((us.drop p).take (n + 2)) < val vs * W64) :
    Calls Try.prog 108 #[.slice (some ⟨g, p, none⟩) (n + 2) cu, .slice A2 (n + 1) c2] w fun e w' => ∃ us', e = .returned (.int .u64 ((val ((us.drop p).take (n + 2)) / val vs : Nat) : Int)) ∧ Row w' g us' ∧ us'.length = us.length ∧ us'.take p = us.take p ∧ us'.drop (p + (n + 2)) = us.drop (p + (n + 2)) ∧ val ((us'.drop p).take (n + 2)) = val ((us.drop p).take (n + 2)) % val vs ∧ w.grownBy w' (some g) := by
  have hV0 : 0 < val vs := by
    rcases Nat.eq_zero_or_pos (val vs) with h | h
    · rw [h] at hwin; omega
    · exact h
  obtain ⟨Q, hQ⟩ : ∃ Q, val ((us.drop p).take (n + 2)) / val vs = Q := ⟨_, rfl⟩
  have hQW : Q < W64 := by rw [← hQ]; exact Nat.div_lt_of_lt_mul hwin
  have hwl : ((us.drop p).take (n + 2)).length = n + 2 := by rw [List.length_take, List.length_drop]; omega
  have hg := guess_ge ((hrow0.small.drop p).take (n + 2)) hvl hwl
  rw [hQ] at hg
  have e1 : ((us.drop p).take (n + 2)).getD n 0 = us.getD (p + n) 0 := by simp
  have e2 : ((us.drop p).take (n + 2)).getD (n + 1) 0 = us.getD (p + (n + 1)) 0 := by simp
  rw [e1, e2] at hg
  obtain ⟨un, hun⟩ : ∃ un, us.getD (p + n) 0 = un := ⟨_, rfl⟩
  obtain ⟨ut, hut⟩ : ∃ ut, us.getD (p + (n + 1)) 0 = ut := ⟨_, rfl⟩
  obtain ⟨vt, hvt2⟩ : ∃ vt, vs.getD n 0 = vt := ⟨_, rfl⟩
  have hunW : un < W64 := hun ▸ hrow0.small.getD _
  have hutW : ut < W64 := hut ▸ hrow0.small.getD _
  have hvtW : vt < W64 := hvt2 ▸ h2.small.getD _
  obtain ⟨ad, rfl, hb2, hcv⟩ := h2.at_ (k := n) (by omega)
  have hcn := hrow0.cell (k := p + n) (by omega)
  have hct := hrow0.cell (k := p + (n + 1)) (by omega)
  rw [hun] at hcn
  rw [hut] at hct
  rw [hvt2] at hcv hg
  rw [hun, hut] at hg
  have nI : (n : Int) ≤ 1099511627776 := by omega
  have HW := Lib.hid hwin
  have HQ := Lib.hid hQ
  have HVL := Lib.hid hvl
  have HP := Lib.hid hp
  have HUL := Lib.hid hul
  clear hwin hQ hvl hp hul hun hut hvt2 e1 e2 hwl
  go_enter Try.func108, Try.ntmps108
  go_wp2_with fail
  go_quiet (fail)
  go_upto_if 28 with (fail)
  go_cut [6] (fun t6 wx => (∃ m, wx = w.drewN m) ∧ ∃ q : Nat, t6 = .int .u64 (q : Int) ∧ Q ≤ q ∧ q < W64)
  case first =>
    by_cases hlt : ut < vt
    · have HL := Lib.hid (show Q ≤ (ut * W64 + un) / vt by
        refine (Nat.le_div_iff_mul_le (by omega)).2 ?_
        rw [Nat.add_comm, Nat.mul_comm ut]; exact hg)
      have HL2 := Lib.hid (digit_lt hlt hunW)
      have HDIV := Lib.hid (bits_div64 ut un vt hunW hvtW hlt)
      go_wp2_with fail
      go_quiet ((go_at_call 71; exact quiet_add (HDIV.out _)))
      go_wp2_with fail
      go_meet
      exact ⟨by rw [World.drewN_drewN]; exact ⟨_, rfl⟩, _, rfl, HL.out, HL2.out⟩
    · go_wp2_with fail
      go_meet
      exact ⟨⟨_, rfl⟩, W64 - 1, by congr 1; have := W64_eq; omega, by omega, by have := W64_ge; omega⟩
  case rest =>
    obtain ⟨⟨m, rfl⟩, q0, rfl, hq0, hq0W⟩ := hcut
    have hcg : ∀ j, p + j < us.length → True := fun _ _ => trivial
    clear hcg hcn hct hcv hg
    go_wp2_with fail
    go_loopw [7, 8, 49] (fun t7 t8 t49 wr => ∃ (i b c : Nat) (os : List Nat), i ≤ n + 1 ∧ b ≤ 1 ∧ c < W64 ∧ t7 = .int .u64 (b : Int) ∧ t8 = .int .u64 (c : Int) ∧ t49 = .int .i64 (i : Int) ∧ os.length = us.length ∧ Row wr g os ∧ w.grownBy wr (some g) ∧ os.take p = us.take p ∧ os.drop (p + i) = us.drop (p + i) ∧ val ((os.drop p).take i) + q0 * val (vs.take i) = val ((us.drop p).take i) + W64 ^ i * (b + c)) (fun _ _ t49 _ => n + 1 - (intOf t49).toNat)
    case atStart => exact ⟨0, 0, 0, us, by omega, by omega, W64_pos, rfl, rfl, rfl, rfl, hrow0.drewN _, ⟨rfl, rfl, rfl, Nat.le_refl _, fun _ _ _ => rfl⟩, rfl, rfl, by simp⟩
    case round =>
      obtain ⟨i, b, c, os, hi, hb, hc, rfl, rfl, rfl, ho, hrow, hgr, htk, hdr, hval⟩ := hrel
      have HV := Lib.hid hval
      have HO := Lib.hid ho
      have HT := Lib.hid htk
      have HD := Lib.hid hdr
      have hlimv : Lim wr g (some ad) vs := h2.keep (fun x hx => hgr.cell_far x (by have := hrow0.lt; omega) (by intro e; injection e; omega)) (Nat.le_refl _)
      clear hval ho htk hdr
      have hil : p + (n + 2) ≤ os.length := by rw [HO.out]; exact HP.out
      by_cases hlt : i < n + 1
      · obtain ⟨ad2, had, hb3, hcell⟩ := hlimv.at_ (k := i) (by rw [HVL.out]; exact hlt)
        injection had with had
        subst had
        obtain ⟨y, hy⟩ : ∃ y, vs.getD i 0 = y := ⟨_, rfl⟩
        obtain ⟨u, hu⟩ : ∃ u, os.getD (p + i) 0 = u := ⟨_, rfl⟩
        have hyW : y < W64 := hy ▸ h2.small.getD i
        have huW : u < W64 := hu ▸ hrow.small.getD (p + i)
        have hu2 : (us.drop p).getD i 0 = u := by rw [getD_drop, ← getD_of_drop HD.out, hu]
        rw [hy] at hcell
        have hcu := hrow.cell (k := p + i) (by omega)
        have hfu := hrow.free (p + i)
        rw [hu] at hcu
        have hm1 := mulsub_step (mul_split q0 y) (add_split (mulLo q0 y) c 0)
        have hcW := mulsub_bound hq0W hyW hc hm1
        have hs1 := sub_split huW (addLo_lt (mulLo q0 y) c 0) hb
        have hb1 := subHi_le u (addLo (mulLo q0 y) c 0) b
        have hset := hrow.set (k := p + i) (x := subLo u (addLo (mulLo q0 y) c 0) b) (by omega) (subLo_lt _ _ _)
        have hgr' : w.grownBy (wr.setCell ⟨g, p + i, none⟩ (.int .u64 (subLo u (addLo (mulLo q0 y) c 0) b : Nat))) (some g) := grownBy_trans hgr (only_set _ _ _)
        have ha1 := add64_run0 (mulLo q0 y) c
        have ha2 := sub64_run u (addLo (mulLo q0 y) c 0) b hb
        have hmul := Lib.hid (bits_mul64 q0 y hq0W hyW)
        have hbc := lt_W64 hcW
        rw [Int.natCast_add] at hbc
        have hstep : val (((os.set (p + i) (subLo u (addLo (mulLo q0 y) c 0) b)).drop p).take (i + 1)) + q0 * val (vs.take (i + 1)) = val ((us.drop p).take (i + 1)) + W64 ^ (i + 1) * (subHi u (addLo (mulLo q0 y) c 0) b + (mulHi q0 y + addHi (mulLo q0 y) c 0)) := by
          have hV := HV.out
          rw [drop_set_add, val_take_set _ _ _ (by rw [List.length_drop]; omega), val_take_step vs, val_take_step (us.drop p), hy, hu2, Nat.pow_succ]
          exact alg_mulsub W64 hV hs1 hm1
        have HS := Lib.hid hstep
        have HL := Lib.hid (show (os.set (p + i) (subLo u (addLo (mulLo q0 y) c 0) b)).length = us.length by rw [List.length_set, HO.out])
        have HT2 := Lib.hid (show (os.set (p + i) (subLo u (addLo (mulLo q0 y) c 0) b)).take p = us.take p by rw [List.take_set_of_le (by omega), HT.out])
        have HD2 := Lib.hid (show (os.set (p + i) (subLo u (addLo (mulLo q0 y) c 0) b)).drop (p + (i + 1)) = us.drop (p + (i + 1)) by
          rw [List.drop_set_of_lt (by omega), ← Nat.add_assoc]; exact drop_more HD.out 1)
        have HY := Lib.hid hy
        have HU := Lib.hid hu
        have HU2 := Lib.hid hu2
        clear hstep hm1 hs1 hy hu hu2
        go_wp2_with fail
        refine (hmul.out _).mono ?_
        rintro e w1 ⟨rfl, rfl⟩
        go_wp2_with fail
        exact ⟨⟨i + 1, _, _, _, by omega, hb1, hcW, rfl, by simp only [Int.natCast_add], by go_num, HL.out, hset, hgr', HT2.out, HD2.out, HS.out⟩, by simp [intOf]; omega⟩
      · obtain rfl : i = n + 1 := by omega
        obtain ⟨u, hu⟩ : ∃ u, os.getD (p + (n + 1)) 0 = u := ⟨_, rfl⟩
        have huW : u < W64 := hu ▸ hrow.small.getD _
        have hu2 : (us.drop p).getD (n + 1) 0 = u := by rw [getD_drop, ← getD_of_drop HD.out, hu]
        have hcu := hrow.cell (k := p + (n + 1)) (by omega)
        have hfu := hrow.free (p + (n + 1))
        rw [hu] at hcu
        have hs1 := sub_split huW hc hb
        have hb1 := subHi_le u c b
        have hset := hrow.set (k := p + (n + 1)) (x := subLo u c b) (by omega) (subLo_lt _ _ _)
        have hgr' : w.grownBy (wr.setCell ⟨g, p + (n + 1), none⟩ (.int .u64 (subLo u c b : Nat))) (some g) := grownBy_trans hgr (only_set _ _ _)
        have ha2 := sub64_run u c b hb
        have hstep : val (((os.set (p + (n + 1)) (subLo u c b)).drop p).take (n + 2)) + q0 * val vs = val ((us.drop p).take (n + 2)) + W64 ^ (n + 2) * subHi u c b := by
          have hV := HV.out
          rw [show vs.take (n + 1) = vs from List.take_of_length_le (by rw [HVL.out]; omega)] at hV
          rw [drop_set_add, show n + 2 = (n + 1) + 1 by rfl, val_take_set _ _ _ (by rw [List.length_drop]; omega), val_take_step (us.drop p), hu2, Nat.pow_succ]
          exact alg_sub W64 hV hs1
        have HS := Lib.hid hstep
        have HL := Lib.hid (show (os.set (p + (n + 1)) (subLo u c b)).length = us.length by rw [List.length_set, HO.out])
        have HT2 := Lib.hid (show (os.set (p + (n + 1)) (subLo u c b)).take p = us.take p by rw [List.take_set_of_le (by omega), HT.out])
        have HD2 := Lib.hid (show (os.set (p + (n + 1)) (subLo u c b)).drop (p + (n + 2)) = us.drop (p + (n + 2)) by
          rw [List.drop_set_of_lt (by omega)]; exact drop_more HD.out 1)
        have HU := Lib.hid (And.intro hu hu2)
        clear hstep hs1 hu hu2
        generalize subHi u c b = b1 at *
        generalize subLo u c b = d1 at *
        generalize hos1 : os.set (p + (n + 1)) d1 = os1 at *
        clear hos1
        go_wp2_with fail
        clear hcu hfu ha2 hgr hrow hlimv hi
        go_loopw [6, 7] (fun t6 t7 wr => ∃ (q b : Nat) (os : List Nat), b ≤ 1 ∧ Q ≤ q ∧ q < W64 ∧ t6 = .int .u64 (q : Int) ∧ t7 = .int .u64 (b : Int) ∧ os.length = us.length ∧ Row wr g os ∧ w.grownBy wr (some g) ∧ os.take p = us.take p ∧ os.drop (p + (n + 2)) = us.drop (p + (n + 2)) ∧ val ((os.drop p).take (n + 2)) + q * val vs = val ((us.drop p).take (n + 2)) + W64 ^ (n + 2) * b) (fun t6 _ _ => (intOf t6).toNat)
        case atStart => exact ⟨q0, b1, os1, hb1, hq0, hq0W, rfl, rfl, HL.out, hset, hgr', HT2.out, HD2.out, HS.out⟩
        case round =>
          obtain ⟨q, b, os, hb, hqQ, hqW, rfl, rfl, ho, hrow, hgr, htk, hdr, hval⟩ := hrel
          have hlimv : Lim wr g (some ad) vs := h2.keep (fun x hx => hgr.cell_far x (by have := hrow0.lt; omega) (by intro e; injection e; omega)) (Nat.le_refl _)
          have hil : p + (n + 2) ≤ os.length := by rw [ho]; exact HP.out
          have hwlt := val_lt ((hrow.small.drop p).take (n + 2))
          rw [List.length_take, List.length_drop, Nat.min_eq_left (by omega)] at hwlt
          have hQm := HQ.out
          rcases Nat.eq_zero_or_pos b with hb0 | hb0
          · subst hb0
            rw [Nat.mul_zero, Nat.add_zero] at hval
            have hqe : Q = q := by
              refine Nat.le_antisymm hqQ ?_
              rw [← hQm]
              refine (Nat.le_div_iff_mul_le hV0).2 ?_
              omega
            have hre : val ((os.drop p).take (n + 2)) = val ((us.drop p).take (n + 2)) % val vs := by
              have h3 := Nat.div_add_mod (val ((us.drop p).take (n + 2))) (val vs)
              rw [hQm, hqe, Nat.mul_comm] at h3
              omega
            have HRE := Lib.hid hre
            have HQE := Lib.hid hqe
            have HO := Lib.hid ho
            have HT := Lib.hid htk
            have HD := Lib.hid hdr
            clear hval hwlt hQm hqe hre ho htk hdr
            go_wp2_with fail
            go_ret
            exact ⟨os, by rw [HQ.out, HQE.out]; rfl, hrow, HO.out, HT.out, HD.out, HRE.out, hgr⟩
          · obtain rfl : b = 1 := by omega
            rw [Nat.mul_one] at hval
            have hq1 : Q < q := by
              rw [← hQm]
              refine Nat.div_lt_of_lt_mul ?_
              rw [Nat.mul_comm]; omega
            have HV := Lib.hid hval
            have HO := Lib.hid ho
            have HT := Lib.hid htk
            have HD := Lib.hid hdr
            clear hval hwlt hQm ho htk hdr
            have tb : ((1 : Int) != 0) = true := by decide
            have hqI := lt_W64 hqW
            have hq1I : (1 : Int) ≤ (q : Int) := by omega
            go_wp2_with fail
            obtain ⟨wo, hwo⟩ : ∃ wo : World, wo = wr := ⟨_, rfl⟩
            subst hwo
            go_loopw [14, 102] (fun t14 t102 wr => ∃ (i c : Nat) (os3 : List Nat), i ≤ n + 1 ∧ c ≤ 1 ∧ t14 = .int .u64 (c : Int) ∧ t102 = .int .i64 (i : Int) ∧ os3.length = us.length ∧ Row wr g os3 ∧ w.grownBy wr (some g) ∧ os3.take p = us.take p ∧ os3.drop (p + i) = os.drop (p + i) ∧ val ((os3.drop p).take i) + W64 ^ i * c = val ((os.drop p).take i) + val (vs.take i)) (fun _ t102 _ => n + 1 - (intOf t102).toNat)
            case atStart => exact ⟨0, 0, os, by omega, by omega, rfl, rfl, HO.out, hrow, hgr, HT.out, rfl, by simp⟩
            case round =>
              obtain ⟨i, c, os3, hi, hc, rfl, rfl, ho3, hrow3, hgr3, htk3, hdr3, hval3⟩ := hrel
              have HV3 := Lib.hid hval3
              have HO3 := Lib.hid ho3
              have HT3 := Lib.hid htk3
              have HD3 := Lib.hid hdr3
              have hlim3 : Lim wr g (some ad) vs := h2.keep (fun x hx => hgr3.cell_far x (by have := hrow0.lt; omega) (by intro e; injection e; omega)) (Nat.le_refl _)
              have hil3 : p + (n + 2) ≤ os3.length := by rw [ho3]; exact HP.out
              clear hval3 ho3 htk3 hdr3
              by_cases hlt : i < n + 1
              · obtain ⟨ad2, had, hb3, hcell⟩ := hlim3.at_ (k := i) (by rw [HVL.out]; exact hlt)
                injection had with had
                subst had
                obtain ⟨y, hy⟩ : ∃ y, vs.getD i 0 = y := ⟨_, rfl⟩
                obtain ⟨u, hu⟩ : ∃ u, os3.getD (p + i) 0 = u := ⟨_, rfl⟩
                have hyW : y < W64 := hy ▸ h2.small.getD i
                have huW : u < W64 := hu ▸ hrow3.small.getD (p + i)
                have hu2 : (os.drop p).getD i 0 = u := by rw [getD_drop, ← getD_of_drop HD3.out, hu]
                rw [hy] at hcell
                have hcu := hrow3.cell (k := p + i) (by omega)
                have hfu := hrow3.free (p + i)
                rw [hu] at hcu
                have hs1 := add_split u y c
                have hc1 := addHi_le huW hyW hc
                have hset := hrow3.set (k := p + i) (x := addLo u y c) (by omega) (addLo_lt _ _ _)
                have hgr' : w.grownBy (wr.setCell ⟨g, p + i, none⟩ (.int .u64 (addLo u y c : Nat))) (some g) := grownBy_trans hgr3 (only_set _ _ _)
                have ha1 := add64_run u y c hc
                have hstep : val (((os3.set (p + i) (addLo u y c)).drop p).take (i + 1)) + W64 ^ (i + 1) * addHi u y c = val ((os.drop p).take (i + 1)) + val (vs.take (i + 1)) := by
                  have hV := HV3.out
                  rw [drop_set_add, val_take_set _ _ _ (by rw [List.length_drop]; omega), val_take_step vs, val_take_step (os.drop p), hy, hu2, Nat.pow_succ]
                  exact alg_add W64 hV hs1
                have HS := Lib.hid hstep
                have HL := Lib.hid (show (os3.set (p + i) (addLo u y c)).length = us.length by rw [List.length_set, HO3.out])
                have HT2 := Lib.hid (show (os3.set (p + i) (addLo u y c)).take p = us.take p by rw [List.take_set_of_le (by omega), HT3.out])
                have HD2 := Lib.hid (show (os3.set (p + i) (addLo u y c)).drop (p + (i + 1)) = os.drop (p + (i + 1)) by
                  rw [List.drop_set_of_lt (by omega), ← Nat.add_assoc]; exact drop_more HD3.out 1)
                have HY := Lib.hid hy
                have HU := Lib.hid (And.intro hu hu2)
                clear hstep hs1 hy hu hu2
                go_wp2_with fail
                exact ⟨⟨i + 1, _, _, by omega, hc1, rfl, by go_num, HL.out, hset, hgr', HT2.out, HD2.out, HS.out⟩, by simp [intOf]; omega⟩
              · obtain rfl : i = n + 1 := by omega
                obtain ⟨u, hu⟩ : ∃ u, os3.getD (p + (n + 1)) 0 = u := ⟨_, rfl⟩
                have huW : u < W64 := hu ▸ hrow3.small.getD _
                have hu2 : (os.drop p).getD (n + 1) 0 = u := by rw [getD_drop, ← getD_of_drop HD3.out, hu]
                have hcu := hrow3.cell (k := p + (n + 1)) (by omega)
                have hfu := hrow3.free (p + (n + 1))
                rw [hu] at hcu
                have hs1 := add_split u 0 c
                have hc1 := addHi_le huW W64_pos hc
                have hset := hrow3.set (k := p + (n + 1)) (x := addLo u 0 c) (by omega) (addLo_lt _ _ _)
                have hgr' : w.grownBy (wr.setCell ⟨g, p + (n + 1), none⟩ (.int .u64 (addLo u 0 c : Nat))) (some g) := grownBy_trans hgr3 (only_set _ _ _)
                have ha1 := add64_run u 0 c hc
                rw [Int.natCast_zero] at ha1
                have hstep : val (((os3.set (p + (n + 1)) (addLo u 0 c)).drop p).take (n + 2)) + W64 ^ (n + 2) * addHi u 0 c = val ((os.drop p).take (n + 2)) + val vs := by
                  have hV := HV3.out
                  rw [show vs.take (n + 1) = vs from List.take_of_length_le (by rw [HVL.out]; omega)] at hV
                  rw [drop_set_add, show n + 2 = (n + 1) + 1 by rfl, val_take_set _ _ _ (by rw [List.length_drop]; omega), val_take_step (os.drop p), hu2, Nat.pow_succ]
                  have h4 := alg_add W64 hV hs1
                  rwa [Nat.mul_zero, Nat.add_zero] at h4
                have hfin : val (((os3.set (p + (n + 1)) (addLo u 0 c)).drop p).take (n + 2)) + (q - 1) * val vs = val ((us.drop p).take (n + 2)) + W64 ^ (n + 2) * (1 - addHi u 0 c) := by
                  have hV := HV.out
                  obtain ⟨r, rfl⟩ : ∃ r, q = r + 1 := ⟨q - 1, by omega⟩
                  rw [Nat.add_mul, Nat.one_mul] at hV
                  rw [Nat.add_sub_cancel]
                  rcases Nat.eq_zero_or_pos (addHi u 0 c) with h6 | h6
                  · rw [h6] at hstep ⊢; omega
                  · have h7 : addHi u 0 c = 1 := by omega
                    rw [h7] at hstep ⊢; omega
                have HS := Lib.hid hfin
                have HL := Lib.hid (show (os3.set (p + (n + 1)) (addLo u 0 c)).length = us.length by rw [List.length_set, HO3.out])
                have HT2 := Lib.hid (show (os3.set (p + (n + 1)) (addLo u 0 c)).take p = us.take p by rw [List.take_set_of_le (by omega), HT3.out])
                have HD2 := Lib.hid (show (os3.set (p + (n + 1)) (addLo u 0 c)).drop (p + (n + 2)) = us.drop (p + (n + 2)) by
                  rw [List.drop_set_of_lt (by omega), ← HD.out]; exact drop_more HD3.out 1)
                have HU := Lib.hid (And.intro hu hu2)
                clear hstep hfin hs1 hu hu2
                go_wp2_with fail
                exact ⟨⟨q - 1, 1 - addHi u 0 c, _, by omega, by omega, by omega, by congr 1; omega, by congr 1; omega, HL.out, hset, hgr', HT2.out, HD2.out, HS.out⟩, by simp [intOf]; omega⟩
end Go.Proofs.Ytonbhpadoplpkaa
