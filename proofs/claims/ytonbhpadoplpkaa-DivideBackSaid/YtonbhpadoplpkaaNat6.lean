/- The contracts of package big's sizes (nat.go), on: quotient and rest; the whole root. -/
import Derived.Test.YtonbhpadoplpkaaNat5
namespace Go.Proofs.Ytonbhpadoplpkaa
open Go.RowKit Go.Deep

/-! ### the long division's steps, in lists -/
theorem alg_over (W : Nat) {M t win rest P D V q r : Nat} (hrest : rest = 0) (hM : M = t + P * (win + rest) + D * (P * W) * V) (hw : win = q * V + r) : M = t + P * (r + 0) + (q + W * D) * P * V := by
  subst hrest
  rw [hM, hw]; grind
theorem over_win {us : List Nat} (hs : Small us) {p lb V : Nat} (hp : p + (lb + 1) ≤ us.length) (hVl : V < W64 ^ lb) (hlt : val (us.drop (p + 1)) < V) :
    val ((us.drop p).take (lb + 1)) < V * W64 ∧ val (us.drop (p + (lb + 1))) = 0 := by
  have h1 := val_drop_step us p (by omega)
  have h2 : us.getD p 0 < W64 := hs.getD p
  have h3 := val_split (us.drop p) (lb + 1) (by rw [List.length_drop]; omega)
  rw [List.drop_drop] at h3
  have h4 := val_split (us.drop (p + 1)) lb (by rw [List.length_drop]; omega)
  rw [List.drop_drop] at h4
  have h5 : W64 * val (us.drop (p + 1)) + W64 ≤ W64 * V := by
    have := Nat.mul_le_mul_left W64 (show val (us.drop (p + 1)) + 1 ≤ V from hlt)
    rwa [Nat.mul_add, Nat.mul_one] at this
  rw [Nat.mul_comm V]
  refine ⟨by omega, ?_⟩
  rw [show p + 1 + lb = p + (lb + 1) by omega] at h4
  rcases Nat.eq_zero_or_pos (val (us.drop (p + (lb + 1)))) with h6 | h6
  · exact h6
  · have := Nat.mul_le_mul_left (W64 ^ lb) h6
    omega
theorem over_step {us us' os : List Nat} (hs : Small us) {p lb V M q : Nat} (hlen : us'.length = us.length) (hp : p + (lb + 1) ≤ us.length) (hV0 : 0 < V) (hVl : V < W64 ^ lb) (hlt : val (us.drop (p + 1)) < V)
    (hM : M = val us + val (os.drop (p + 1)) * W64 ^ (p + 1) * V) (hq : q = val ((us.drop p).take (lb + 1)) / V) (htk : us'.take p = us.take p) (hdr : us'.drop (p + (lb + 1)) = us.drop (p + (lb + 1)))
    (hr : val ((us'.drop p).take (lb + 1)) = val ((us.drop p).take (lb + 1)) % V) (hpo : p < os.length) :
    val (us'.drop p) < V ∧ M = val us' + val ((os.set p q).drop p) * W64 ^ p * V := by
  obtain ⟨_, h0⟩ := over_win hs hp hVl hlt
  have e1 := val_split us p (by omega)
  have e2 := val_split (us.drop p) (lb + 1) (by rw [List.length_drop]; omega)
  rw [List.drop_drop, h0] at e2
  have e3 := val_split us' p (by omega)
  have e4 := val_split (us'.drop p) (lb + 1) (by rw [List.length_drop]; omega)
  rw [List.drop_drop, hdr, h0, hr] at e4
  have h5 := Nat.div_add_mod (val ((us.drop p).take (lb + 1))) V
  rw [← hq] at h5
  have h6 := Nat.mod_lt (val ((us.drop p).take (lb + 1))) hV0
  rw [Nat.mul_zero, Nat.add_zero] at e4
  refine ⟨by rw [e4]; exact h6, ?_⟩
  rw [e3, e4, htk, val_drop_set os p q hpo]
  rw [e1, e2, Nat.pow_succ] at hM
  have h7 := alg_over W64 (Nat.mul_zero (W64 ^ (lb + 1))) hM (q := q) (r := val ((us.drop p).take (lb + 1)) % V) (by rw [Nat.mul_comm]; exact h5.symm)
  rwa [Nat.add_zero] at h7
theorem val_take_pad (xs : List Nat) (k : Nat) (h : xs.length ≤ k) : val ((xs ++ [0, 0]).take k) = val xs := by
  rw [List.take_append, List.take_of_length_le h, val_append]
  have : val (([0, 0] : List Nat).take (k - xs.length)) = 0 := by
    rcases hk : k - xs.length with _ | _ | n
    · rfl
    · rfl
    · rw [List.take_of_length_le (by simp)]; simp
  rw [this]; simp
/-- Both numbers moved up till the divisor's highest bit is set. -/
theorem moved_lc {m n : Nat} (hn : n ≠ 0) (hmn : n ≤ m) : ∃ s t, (limbs n).getD (lc n - 1) 0 = t ∧ t < W64 ∧ 64 - bitLen t = s ∧ s ≤ 63 ∧ lc (n * 2 ^ s) = lc n ∧ lc m ≤ lc (m * 2 ^ s) ∧ lc (m * 2 ^ s) ≤ lc m + 1 := by
  obtain ⟨ys, t, hyt, ht0⟩ := snoc_of_norm (norm_limbs n) (fun e => hn (limbs_eq_nil.1 e))
  have hsm := small_limbs n
  rw [hyt] at hsm
  have hys : Small ys := fun z hz => hsm z (by simp [hz])
  have htW : t < W64 := hsm t (by simp)
  have hnb := nbits_top hys ht0 htW
  rw [← hyt, val_limbs] at hnb
  have hlc : lc n = ys.length + 1 := by unfold lc; rw [hyt]; simp
  have hbl := bitLen_le64 htW
  have hbp := bitLen_pos (by rw [← W64_two]; exact htW) ht0
  refine ⟨64 - bitLen t, t, by rw [hlc, hyt]; simp, htW, rfl, by omega, ?_, lc_mono (Nat.le_mul_of_pos_right _ (Nat.pow_pos (by omega))), ?_⟩
  · have h1 := nbits_mul_pow (k := 64 - bitLen t) hn
    have h2 : lc (n * 2 ^ (64 - bitLen t)) ≤ lc n := by rw [lc_le_nbits, h1, hnb, hlc]; omega
    have h3 : lc n ≤ lc (n * 2 ^ (64 - bitLen t)) := lc_mono (Nat.le_mul_of_pos_right _ (Nat.pow_pos (by omega)))
    omega
  · have h1 := nbits_mul_pow (n := m) (k := 64 - bitLen t) (by omega)
    rw [lc_le_nbits, h1]
    have := nbits_le_lc m
    omega

set_option maxHeartbeats 4000000 in
set_option maxRecDepth 100000 in
theorem big_over (A1 A2 : Option Addr) (c1 c2 m n : Nat) (w : World) {B : Nat} (hB : B ≤ w.heap.size) (h1 : Lim w B A1 (limbs m)) (h2 : Lim w B A2 (limbs n)) (hl1 : (limbs m).length ≤ 549755813888) (hl2 : (limbs n).length ≤ 549755813888) (hn : n ≠ 0) :
    Calls Try.prog 98 #[.slice A1 (limbs m).length c1, .slice A2 (limbs n).length c2] w fun e w' => ∃ Aq cq Ar cr, e = .returned (.tuple #[.slice Aq (limbs (m / n)).length cq, .slice Ar (limbs (m % n)).length cr]) ∧ (limbs (m / n)).length ≤ cq ∧ (limbs (m % n)).length ≤ cr ∧ Lim w' w'.heap.size Aq (limbs (m / n)) ∧ Lim w' w'.heap.size Ar (limbs (m % n)) ∧ Below w.heap.size w w' := by
  have hcmp := Lib.hid (big_compare A1 A2 c1 c2 m n)
  by_cases hlt : m < n
  · have HE := Lib.hid (show limbs (m / n) = [] ∧ m % n = m by rw [Nat.div_eq_of_lt hlt, limbs_zero, Nat.mod_eq_of_lt hlt]; exact ⟨rfl, rfl⟩)
    rw [HE.out.1, HE.out.2]
    have HL1 := Lib.hid hl1
    have HL2 := Lib.hid hl2
    have HC := Lib.hid (cmpN_lt hlt)
    clear hl1 hl2 hlt
    go_enter Try.func98, Try.ntmps98
    go_wp2_with fail
    refine (hcmp.out w h1 h2 (by have := HL1.out; omega) (by have := HL2.out; omega)).mono ?_
    rintro e w1 ⟨rfl, q, rfl⟩
    rw [HC.out]
    go_wp2_with (at_builtin; refine append_lim (w0 := w) (B := B) w.heap.size rfl _ _ rfl _ [] A1 (limbs m).length c1 (limbs m) (by rfl) (by rfl) rfl (((h1.drewN q).alloc hB _)) ⟨Small.nil, by simp [nums], .inr ⟨w.heap.size, 0, #[], rfl, Nat.le_refl _, heap_alloc_new _ _, by simp, by simp [maxLen], by simp, by simp [nums]⟩⟩ ((below_drewN (Below.refl _ _) q).alloc (Nat.le_refl _) _) (by simp) (by have := HL1.out; simp; omega) ?_)
    intro v1 w2 hown hbel _ _
    obtain ⟨A, c, hv1, hlc, hlim, _⟩ := hown.form
    rw [hv1]
    clear hv1
    go_wp2_with fail
    go_ret2
    exact ⟨none, 0, A, c, rfl, by simp, hlc, Lim.nil _ _ _, hlim, hbel⟩
  · have hmn : n ≤ m := by omega
    have HCN : Hid (0 ≤ cmpN m n) := by
      show 0 ≤ cmpN m n
      rcases Nat.lt_or_eq_of_le hmn with h | h
      · rw [cmpN_gt h]; decide
      · rw [cmpN_eq h.symm]; decide
    by_cases hone : (limbs n).length = 1
    · obtain ⟨d, hd⟩ : ∃ d, limbs n = [d] := by
        rcases hl : limbs n with _ | ⟨d, _ | ⟨e, r⟩⟩
        · rw [hl] at hone; cases hone
        · exact ⟨d, rfl⟩
        · rw [hl] at hone; simp at hone
      have hnd : n = d := by have := val_limbs n; rw [hd] at this; simpa using this.symm
      subst hnd
      have hdW : n < W64 := by have := small_limbs n; rw [hd] at this; exact this.head
      obtain ⟨ad, rfl, hb, hcell⟩ := h2.at_ (k := 0) (by rw [hd]; simp)
      rw [hd] at hcell
      have hcell : w.cell? (ad.add 0) = some (.int .u64 (n : Int)) := hcell
      rw [show ad.add 0 = ad by rfl] at hcell
      have hsh := Lib.hid (big_short A1 c1 (limbs m) n)
      have HL1 := Lib.hid hl1
      have HL2 := Lib.hid hl2
      have HO := Lib.hid hone
      rw [hone] at hcmp
      have HMN := Lib.hid hmn
      clear hl1 hl2 hd hlt hone hmn
      rw [HO.out]
      go_enter Try.func98, Try.ntmps98
      go_wp2_with fail
      refine (hcmp.out w h1 h2 (by have := HL1.out; omega) (by have := HL2.out; omega)).mono ?_
      rintro e w1 ⟨rfl, q, rfl⟩
      have hcz : 0 ≤ cmpN m n := HCN.out
      obtain ⟨cz, hcz2⟩ : ∃ cz, cmpN m n = cz := ⟨_, rfl⟩
      rw [hcz2] at hcz ⊢
      have HCZ := Lib.hid hcz2
      clear hcz2
      go_wp2_with fail
      refine (hsh.out (w.drewN q) (B := B) hB (h1.drewN q) (by have := HL1.out; omega) hdW (by omega)).mono ?_
      rintro e w1 ⟨Aq, cq, rfl, hlq, hlimq, hbelq⟩
      rw [val_limbs] at hlq hlimq ⊢
      obtain ⟨r, hr⟩ : ∃ r, m % n = r := ⟨_, rfl⟩
      rw [hr]
      have hrW : r < W64 := by rw [← hr]; exact Nat.lt_trans (Nat.mod_lt _ (by omega)) hdW
      have HR := Lib.hid hr
      clear hr
      obtain ⟨nq, hnq⟩ : ∃ nq, (limbs (m / n)).length = nq := ⟨_, rfl⟩
      rw [hnq]
      have HNQ := Lib.hid hnq
      clear hnq
      go_wp2_with fail
      have hlim1 : Lim (w1.alloc (.cells #[.int .u64 (r : Int)] 53)) (w1.heap.size + 1) (some ⟨w1.heap.size, 0, none⟩) [r] :=
        ⟨Small.one hrW, fun _ => ⟨_, rfl, by simp, fun j hj => by
          have e : j = 0 := by simpa using hj
          subst e
          rw [add_plain, cell_of_row _ _ _ _ _ (0, 0) (heap_alloc_new w1 _)]; rfl⟩⟩
      refine (big_trim _ 1 [r] _ hlim1 (by simp) (by simp)).mono ?_
      rintro e w2 ⟨rfl, rfl⟩
      have hv1 : val [r] = r := by simp
      rw [hv1]
      go_wp2_with fail
      go_ret2
      have hbel1 : Below w.heap.size w w1 := (below_drewN (Below.refl _ w) q).trans hbelq
      have hlr := limbs_val_le (Small.one hrW)
      have hlimr := hlim1.trim
      rw [hv1] at hlr hlimr
      exact ⟨Aq, cq, _, _, by rw [HR.out, HNQ.out]; rfl, hlq, by rw [HR.out]; simpa using hlr, (hlimq.alloc (Nat.le_refl _) _).more (by simp), by rw [HR.out]; exact hlimr.more (by simp), hbel1.alloc hbel1.size _⟩
    · obtain ⟨s, t, htop, htW, hst, hs63, hlcV, hlcM1, hlcM2⟩ := moved_lc hn hmn
      have hlb0 : (limbs n).length ≠ 0 := fun e => hn (limbs_eq_nil.1 (List.eq_nil_of_length_eq_zero e))
      obtain ⟨lb, hlb⟩ : ∃ lb, (limbs n).length = lb + 2 := ⟨(limbs n).length - 2, by omega⟩
      obtain ⟨la, hla⟩ : ∃ la, (limbs m).length = la := ⟨_, rfl⟩
      have hlcn : lc n = lb + 2 := hlb
      have hlcm : lc m = la := hla
      have hab : lb + 2 ≤ la := by rw [← hlcm, ← hlcn]; exact lc_mono hmn
      rw [hlcn] at htop hlcV
      rw [hlcm] at hlcM1 hlcM2
      obtain ⟨ad, rfl, hb, hcell⟩ := h2.at_ (k := lb + 1) (by omega)
      have htop' : (limbs n).getD (lb + 1) 0 = t := htop
      rw [htop', add_succ] at hcell
      have hleft1 := Lib.hid (big_left (some ad) c2 (limbs n) s)
      have hleft2 := Lib.hid (big_left A1 c1 (limbs m) s)
      rw [val_limbs] at hleft1 hleft2
      have hmv := div_moved m n s (by omega)
      obtain ⟨V, hV⟩ : ∃ V, n * 2 ^ s = V := ⟨_, rfl⟩
      obtain ⟨M, hM⟩ : ∃ M, m * 2 ^ s = M := ⟨_, rfl⟩
      rw [hV] at hlcV hleft1 hmv
      rw [hM] at hlcM1 hlcM2 hleft2 hmv
      have hV0 : 0 < V := by rw [← hV]; exact Nat.mul_pos (by omega) (Nat.pow_pos (by omega))
      have hVlen : (limbs V).length = lb + 2 := hlcV
      have hVlt : V < W64 ^ (lb + 2) := lc_le.1 (by omega)
      obtain ⟨lm, hlm⟩ : ∃ lm, (limbs M).length = lm := ⟨_, rfl⟩
      have hlm1 : la ≤ lm := by rw [← hlm]; exact hlcM1
      have hlm2 : lm ≤ la + 1 := by rw [← hlm]; exact hlcM2
      have HL1 := Lib.hid hl1
      have HL2 := Lib.hid hl2
      have HLM := Lib.hid hlm
      have HLA := Lib.hid hla
      have HLB := Lib.hid hlb
      have HVL := Lib.hid hVlen
      have HVLT := Lib.hid hVlt
      have HMV := Lib.hid hmv
      have HVE := Lib.hid hV
      have HME := Lib.hid hM
      have HNG := Lib.hid (show W64 ^ (lb + 1) ≤ n by
        rcases Nat.lt_or_ge n (W64 ^ (lb + 1)) with h | h
        · have := lc_le.2 h; omega
        · exact h)
      have HMG := Lib.hid (show m < W64 ^ la by rw [← hlcm]; exact lt_lc m)
      have HMN := Lib.hid hmn
      have HST := Lib.hid hst
      have hlz := Lib.hid (bits_lz64 t htW)
      have laI : (la : Int) ≤ 549755813888 := by omega
      have tb : ((lb : Int) + 2 == 1) = false := beq_eq_false_iff_ne.2 (by omega)
      obtain ⟨D, hD⟩ : ∃ D, la = D + (lb + 2) := ⟨la - (lb + 2), by omega⟩
      have hmk := make_limbs_succ D (by omega)
      have rD : (la : Int) - ((lb : Int) + 2) = (D : Int) := by omega
      have HD := Lib.hid hD
      have hDI : (D : Int) ≤ 549755813888 := by omega
      have hDle1 : D + (lb + 2) ≤ la := by omega
      have hDle2 : la ≤ D + (lb + 2) := by omega
      rw [hla, hlb] at hcmp ⊢
      rw [hlb] at hleft1
      rw [hla] at hleft2
      clear hl1 hl2 hone hlt hmn hlcn hlcm htop htop' hlcV hlcM1 hlcM2 hV hM hVlen hVlt hlm hla hlb hmv hst hlb0 hD
      go_enter Try.func98, Try.ntmps98
      go_wp2_with fail
      refine (hcmp.out w h1 h2 (by have := HL1.out; omega) (by have := HL2.out; omega)).mono ?_
      rintro e w1 ⟨rfl, q, rfl⟩
      have hcz : 0 ≤ cmpN m n := HCN.out
      obtain ⟨cz, hcz2⟩ : ∃ cz, cmpN m n = cz := ⟨_, rfl⟩
      rw [hcz2] at hcz ⊢
      have HCZ := Lib.hid hcz2
      clear hcz2
      go_wp2_with fail
      refine (hlz.out _).mono ?_
      rintro e w1 ⟨rfl, rfl⟩
      rw [HST.out]
      go_wp2_with fail
      refine (hleft1.out (w.drewN q) (B := B) hB (h2.drewN q) (by omega) (by omega)).mono ?_
      rintro e w1 ⟨Av, cv, rfl, hlv, hlimv, hbel1, _⟩
      have hb1 : Below w.heap.size w w1 := (below_drewN (Below.refl _ w) q).trans hbel1
      rw [HVL.out]
      have h1' : Lim w1 w1.heap.size A1 (limbs m) := h1.call hB hb1
      clear hcell
      go_wp2_with fail
      refine (hleft2.out w1 (Nat.le_refl _) h1' (by omega) (by omega)).mono ?_
      rintro e w2 ⟨Au, cu, rfl, hlu, hlimu, hbel2, hownu⟩
      rw [HLM.out] at hownu ⊢
      have hb2 : Below w.heap.size w w2 := hb1.trans (hbel2.mono hb1.size)
      have hb2' : Below w1.heap.size w1 w2 := hbel2
      go_wp2_with (at_builtin; refine append_any (w0 := w1) w1.heap.size rfl _ _ rfl _ (limbs M) ⟨w2.heap.size, 0, none⟩ 2 2 [0, 0] (by rfl) (by rfl) rfl (fun j hj => ?_) ?_ (hownu.alloc _) (hbel2.alloc hbel2.size _) (by have := hbel2.size; simp; omega) ?_ ?_)
      · rcases j with _ | _ | j
        · rw [add_plain, cell_of_row _ _ _ _ _ (0, 0) (heap_alloc_new w2 _)]; rfl
        · rw [add_plain, cell_of_row _ _ _ _ _ (0, 0) (heap_alloc_new w2 _)]; rfl
        · exact absurd hj (by simp)
      · exact Small.cons W64_pos (Small.one W64_pos)
      · rw [HLM.out]; have := HL1.out; simp; omega
      intro v1 w3 hown3 hbel3 _ _
      obtain ⟨zs, hzs⟩ : ∃ zs, limbs M ++ [0, 0] = zs := ⟨_, rfl⟩
      rw [hzs] at hown3
      have hzl : zs.length = lm + 2 := by rw [← hzs, List.length_append, HLM.out]; rfl
      have hzv : val (zs.take (la + 1)) = M := by rw [← hzs, val_take_pad _ _ (by rw [HLM.out]; exact hlm2), val_limbs]
      obtain ⟨Az, cz3, hv1, hlz3, hlimz, hz3⟩ := hown3.form
      obtain ⟨gu, hgu, hgu1, hrowz⟩ : ∃ gu, Az = some ⟨gu, 0, none⟩ ∧ w1.heap.size ≤ gu ∧ Row w3 gu zs := by
        rcases hz3 with h | ⟨gu, h⟩
        · rw [h] at hzl; simp at hzl
        · exact ⟨gu, h⟩
      rw [hgu] at hv1
      rw [hv1, hzl]
      rw [hzl] at hlz3
      clear hv1
      have hrow0 := hrowz.take (la + 1)
      obtain ⟨us0, hus0⟩ : ∃ us0, zs.take (la + 1) = us0 := ⟨_, rfl⟩
      rw [hus0] at hrow0 hzv
      have hul0 : us0.length = la + 1 := by rw [← hus0, List.length_take, hzl]; omega
      have hb3 : Below w.heap.size w w3 := hb1.trans (hbel3.mono hb1.size)
      have hlimv3 : Lim w3 w1.heap.size Av (limbs V) := hlimv.below hbel3
      have HUL := Lib.hid hul0
      have HZV := Lib.hid hzv
      have hs1 := hb1.size
      clear hzl hzv hzs hus0 hul0 hz3 hlimz hown3 hrowz hownu hlimu hgu
      go_wp2_with fail
      go_loopw [12] (fun t12 wr => ∃ (j : Nat) (us os : List Nat), j ≤ D + 1 ∧ t12 = .int .i64 ((j : Int) - 1) ∧ Row wr gu us ∧ us.length = la + 1 ∧ Row wr w3.heap.size os ∧ os.length = D + 1 ∧ Below w.heap.size w wr ∧ Lim wr w1.heap.size Av (limbs V) ∧ val (us.drop j) < V ∧ M = val us + val (os.drop j) * W64 ^ j * V) (fun t12 _ => (intOf t12 + 1).toNat)
      case atStart =>
        have hdrop : val (us0.drop (D + 1)) < V := by
          have h3 := val_split us0 (D + 1) (by rw [HUL.out]; omega)
          rw [HZV.out] at h3
          have h4 : M < W64 ^ (D + 1) * V := by
            rw [← HME.out, ← HVE.out, ← Nat.mul_assoc]
            refine Nat.mul_lt_mul_of_pos_right (Nat.lt_of_lt_of_le HMG.out ?_) (Nat.pow_pos (by omega))
            rw [show la = (D + 1) + (lb + 1) by omega, Nat.pow_add]
            exact Nat.mul_le_mul_left _ HNG.out
          exact Nat.lt_of_mul_lt_mul_left (a := W64 ^ (D + 1)) (by omega)
        exact ⟨D + 1, us0, List.replicate (D + 1) 0, by omega, by simp, hrow0.alloc _, HUL.out, Row.made _ _, by simp, hb3.alloc hb3.size _, hlimv3.alloc (by have := hbel3.size; omega) _, hdrop, by
          rw [List.drop_of_length_le (by simp), HZV.out]; simp⟩
      case round =>
        obtain ⟨j, us, os, hj, rfl, hrow, hul, hrowo, hol, hbel, hlimr, hlt, hM⟩ := hrel
        have HU := Lib.hid hul
        have HO := Lib.hid hol
        have HLT := Lib.hid hlt
        have HM := Lib.hid hM
        clear hul hol hlt hM
        have hgo := hbel3.size
        rcases j with _ | j
        · have hfin : val os = m / n ∧ val us / 2 ^ s = m % n := by
            have h3 := HM.out
            have h4 := HLT.out
            rw [List.drop_zero] at h3 h4
            rw [Nat.pow_zero, Nat.mul_one] at h3
            have h5 := HMV.out
            rw [← h5.1, ← h5.2, h3, Nat.mul_comm (val os), Nat.add_mul_div_left _ _ hV0, Nat.div_eq_of_lt h4, Nat.zero_add, Nat.add_mul_mod_self_left, Nat.mod_eq_of_lt h4]
            exact ⟨rfl, rfl⟩
          have HF := Lib.hid hfin
          have hright := Lib.hid (big_right (some ⟨gu, 0, none⟩) cz3 (limbs (val us)) s)
          rw [val_limbs] at hright
          have hgul := hrow.lt
          have hlus : (limbs (val us)).length ≤ la + 1 := by rw [← HU.out]; exact limbs_val_le hrow.small
          have HLU := Lib.hid hlus
          clear hfin hlus
          go_wp2_with fail
          rw [← HU.out]
          refine (big_trim _ _ _ _ (hrow.lim (B := gu + 1) (by omega)) (by rw [HU.out]; omega) (by rw [HU.out]; omega)).mono ?_
          rintro e w5 ⟨rfl, rfl⟩
          rw [HU.out]
          obtain ⟨lu, hlu2⟩ : ∃ lu, (limbs (val us)).length = lu := ⟨_, rfl⟩
          rw [hlu2] at hright ⊢
          have HLU2 := Lib.hid hlu2
          clear hlu2
          go_wp2_with fail
          refine (hright.out wr (B := gu + 1) (by omega) (hrow.lim (B := gu + 1) (by omega)).trim (by rw [← HLU2.out]; have := HLU.out; omega) (by rw [← HLU2.out]; have := HLU.out; omega) (by rw [W64_eq]; omega)).mono ?_
          rintro e w6 ⟨Ar, cr, rfl, hlr, hlimr2, hbel6⟩
          rw [HF.out.2] at hlr hlimr2 ⊢
          obtain ⟨lr, hlr2⟩ : ∃ lr, (limbs (m % n)).length = lr := ⟨_, rfl⟩
          rw [hlr2]
          have HLR := Lib.hid hlr2
          clear hlr2
          have hrowo6 := hrowo.call hbel6
          go_wp2_with fail
          rw [← HO.out]
          refine (big_trim _ _ _ _ (hrowo6.lim (B := w3.heap.size + 1) (by omega)) (Nat.le_refl _) (by rw [HO.out]; omega)).mono ?_
          rintro e w7 ⟨rfl, rfl⟩
          rw [HF.out.1]
          obtain ⟨lq, hlq2⟩ : ∃ lq, (limbs (m / n)).length = lq := ⟨_, rfl⟩
          rw [hlq2]
          have HLQ := Lib.hid hlq2
          clear hlq2
          go_wp2_with fail
          go_ret2
          have hlimq := (hrowo6.lim (B := w3.heap.size + 1) (by omega)).trim.more hrowo6.lt
          have hlenq := limbs_val_le hrowo.small
          rw [HF.out.1] at hlimq hlenq
          exact ⟨_, _, _, _, by rw [HLR.out, HLQ.out]; rfl, by rw [HLQ.out] at hlenq ⊢; exact hlenq, by rw [HLR.out] at hlr ⊢; exact hlr, hlimq, hlimr2, hbel.trans (hbel6.mono hbel.size)⟩
        · have hwin := over_win hrow.small (p := j) (lb := lb + 2) (by rw [HU.out]; omega) HVLT.out HLT.out
          have hdig := big_digit gu j (cz3 - j) us Av cv (limbs V) wr hrow (hlimr.more hgu1) (n := lb + 1) HVL.out (by rw [HU.out]; omega) (by rw [HU.out]; omega) (by rw [val_limbs]; exact hwin.1)
          rw [val_limbs] at hdig
          obtain ⟨dq, hdq⟩ : ∃ dq, val ((us.drop j).take (lb + 1 + 2)) / V = dq := ⟨_, rfl⟩
          rw [hdq] at hdig
          have hdqW : dq < W64 := by rw [← hdq]; exact Nat.div_lt_of_lt_mul hwin.1
          have HDQ := Lib.hid hdq
          have HDIG := Lib.hid hdig
          have hcj : ¬ cz3 = j := by omega
          have e1 : ((j + 1 : Nat) : Int) - 1 = (j : Int) := by omega
          rw [e1]
          clear e1 hwin hdig hdq
          go_wp2_with fail
          rw [show j + (lb + 2) + 1 - j = lb + 1 + 2 by omega]
          refine HDIG.out.mono ?_
          rintro e w4 ⟨us', rfl, hrow', hlen', htk', hdr', hr', hgr'⟩
          have hgul := hrow0.lt
          have hrowo4 := hrowo.of_block (hgr'.block _ hrowo.lt (by intro e; injection e; omega))
          have hlim4 : Lim w4 w1.heap.size Av (limbs V) := hlimr.keep (fun x hx => hgr'.cell_far x (by have := hrow.lt; omega) (by intro e; injection e; omega)) (Nat.le_refl _)
          have hbel4 : Below w.heap.size w w4 := below_grown hbel hbel.size hgr' (by omega)
          have hst := over_step hrow.small hlen' (lb := lb + 2) (by rw [HU.out]; omega) hV0 HVLT.out HLT.out HM.out HDQ.out.symm htk' hdr' hr' (by rw [HO.out]; omega)
          have HST2 := Lib.hid hst
          have hcg := hrowo4.cell (k := j) (by rw [HO.out]; omega)
          have hfg := hrowo4.free j
          have hset := hrowo4.set (k := j) (x := dq) (by rw [HO.out]; omega) hdqW
          have hneb : gu ≠ w3.heap.size := by omega
          have hrowf := hrow'.far (p := ⟨w3.heap.size, j, none⟩) hneb (.int .u64 (dq : Int))
          have hbel5 := hbel4.setCell (p := ⟨w3.heap.size, j, none⟩) (by have := hb3.size; show w.heap.size ≤ w3.heap.size; exact this) (.int .u64 (dq : Int))
          have hlim5 := hlim4.setCell (p := ⟨w3.heap.size, j, none⟩) (by show w1.heap.size ≤ w3.heap.size; exact hbel3.size) (.int .u64 (dq : Int))
          have HL := Lib.hid (And.intro (hlen'.trans HU.out) (show (os.set j dq).length = D + 1 by rw [List.length_set, HO.out]))
          clear hst hlen' htk' hdr' hr'
          go_wp2_with fail
          exact ⟨⟨j, us', os.set j dq, by omega, rfl, hrowf, HL.out.1, hset, HL.out.2, hbel5, hlim5, HST2.out.1, HST2.out.2⟩, by simp [intOf]⟩
/-! ### the whole root -/
/-- The greatest number whose square is not above n. -/
def isqrt (n : Nat) : Nat := if n = 0 then 0 else
  if (2 * isqrt (n / 4) + 1) * (2 * isqrt (n / 4) + 1) ≤ n then 2 * isqrt (n / 4) + 1 else 2 * isqrt (n / 4)
termination_by n
decreasing_by all_goals exact Nat.div_lt_self (by omega) (by omega)
theorem isqrt_spec (n : Nat) : isqrt n * isqrt n ≤ n ∧ n < (isqrt n + 1) * (isqrt n + 1) := by
  induction n using Nat.strongRecOn with
  | _ n ih =>
    by_cases h0 : n = 0
    · subst h0; rw [isqrt]; simp
    · obtain ⟨h1, h2⟩ := ih (n / 4) (Nat.div_lt_self (by omega) (by omega))
      rw [isqrt, if_neg h0]
      generalize isqrt (n / 4) = r at *
      have e1 : (2 * r) * (2 * r) = 4 * (r * r) := by grind
      have e2 : (2 * r + 1 + 1) * (2 * r + 1 + 1) = 4 * ((r + 1) * (r + 1)) := by grind
      split
      · exact ⟨by assumption, by rw [e2]; omega⟩
      · exact ⟨by rw [e1]; omega, by omega⟩
theorem isqrt_le {n x : Nat} : isqrt n ≤ x ↔ n < (x + 1) * (x + 1) := by
  obtain ⟨h1, h2⟩ := isqrt_spec n
  constructor
  · intro h
    exact Nat.lt_of_lt_of_le h2 (Nat.mul_le_mul (by omega) (by omega))
  · intro h
    rcases Nat.lt_or_ge x (isqrt n) with h3 | h3
    · have := Nat.mul_le_mul (show x + 1 ≤ isqrt n from h3) (show x + 1 ≤ isqrt n from h3); omega
    · exact h3
theorem le_isqrt {n x : Nat} : x ≤ isqrt n ↔ x * x ≤ n := by
  obtain ⟨h1, h2⟩ := isqrt_spec n
  constructor
  · intro h; exact Nat.le_trans (Nat.mul_le_mul h h) h1
  · intro h
    rcases Nat.lt_or_ge (isqrt n) x with h3 | h3
    · have := Nat.mul_le_mul (show isqrt n + 1 ≤ x from h3) (show isqrt n + 1 ≤ x from h3); omega
    · exact h3
/-- A step of Newton's never falls below the root. -/
theorem isqrt_step {n x : Nat} (hx : 0 < x) : isqrt n ≤ (x + n / x) / 2 := by
  obtain ⟨h1, _⟩ := isqrt_spec n
  generalize isqrt n = r at *
  have h3 := Nat.lt_mul_div_succ n hx
  generalize n / x = q at *
  refine (Nat.le_div_iff_mul_le (by omega)).2 ?_
  rcases Nat.lt_or_ge (x + q) (r * 2) with h | h
  · exfalso
    have h5 : 4 * (x * (q + 1)) ≤ (x + q + 1) * (x + q + 1) := by
      have e1 : (x + q + 1) * (x + q + 1) = x * x + 2 * (x * (q + 1)) + (q + 1) * (q + 1) := by grind
      have e2 : x * x + (q + 1) * (q + 1) ≥ 2 * (x * (q + 1)) := by
        rcases Nat.le_total x (q + 1) with h6 | h6
        · obtain ⟨d, hd⟩ := Nat.exists_eq_add_of_le h6
          rw [hd]; have : x * x + (x + d) * (x + d) = 2 * (x * (x + d)) + d * d := by grind
          omega
        · obtain ⟨d, hd⟩ := Nat.exists_eq_add_of_le h6
          rw [hd]
          generalize q + 1 = z at *
          have : (z + d) * (z + d) + z * z = 2 * ((z + d) * z) + d * d := by grind
          omega
      omega
    have h6 : (x + q + 1) * (x + q + 1) ≤ (r * 2) * (r * 2) := Nat.mul_le_mul (by omega) (by omega)
    have e3 : (r * 2) * (r * 2) = 4 * (r * r) := by grind
    omega
  · exact h
theorem isqrt_stop {n x : Nat} (hr : isqrt n ≤ x) (h : x ≤ (x + n / x) / 2) : x = isqrt n := by
  refine Nat.le_antisymm ?_ hr
  rw [le_isqrt]
  have h1 : x ≤ n / x := by omega
  exact Nat.le_trans (Nat.mul_le_mul_left x h1) (Nat.mul_div_le n x)
theorem isqrt_begin (n : Nat) : isqrt n ≤ 2 ^ ((nbits n + 1) / 2) := by
  rw [isqrt_le]
  have h1 := lt_nbits n
  have h2 : 2 ^ nbits n ≤ 2 ^ ((nbits n + 1) / 2 + (nbits n + 1) / 2) := Nat.pow_le_pow_right (by omega) (by omega)
  rw [Nat.pow_add] at h2
  have h3 : 2 ^ ((nbits n + 1) / 2) * 2 ^ ((nbits n + 1) / 2) ≤ (2 ^ ((nbits n + 1) / 2) + 1) * (2 ^ ((nbits n + 1) / 2) + 1) := Nat.mul_le_mul (by omega) (by omega)
  omega
theorem lc_pow_half (n : Nat) : lc (2 ^ ((nbits n + 1) / 2)) ≤ lc n + 1 := by
  rw [lc_le, W64_pow]
  refine Nat.pow_lt_pow_right (by omega) ?_
  have := nbits_le_lc n
  omega

end Go.Proofs.Ytonbhpadoplpkaa
