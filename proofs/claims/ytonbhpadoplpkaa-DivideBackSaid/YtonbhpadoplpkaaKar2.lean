import Derived.Test.YtonbhpadoplpkaaKar
import Derived.Test.YtonbhpadoplpkaaDiv5
import Derived.Laws.CopyOwn
/- The package times: take, sum. -/
namespace Go.Proofs.Ytonbhpadoplpkaa
open Go.RowKit Go.Deep
theorem borrow_step {a1 a2 a3 P d b u b' y W : Nat} (h : a1 + a3 = a2 + P * b) (hs : d + y + b = u + W * b') : a1 + P * d + (a3 + P * y) = a2 + P * u + P * W * b' := by
  have h5 : P * (d + y + b) = P * (u + W * b') := by rw [hs]
  grind
set_option maxHeartbeats 4000000 in
set_option maxRecDepth 100000 in
theorem times_take (g lo co : Nat) (os : List Nat) (A2 : Option Addr) (l2 c2 : Nat) (xs : List Nat) (w : World) (hrow0 : Row w g os) (h2 : Lim w w.heap.size A2 xs) (hne : 0 < xs.length → ∀ ad, A2 = some ad → ad.block ≠ g) (elo : lo = os.length) (el2 : l2 = xs.length) (hat : l2 ≤ lo) (hfit : val xs ≤ val os) (hl : lo ≤ 1099511627776) :
    Calls Try.prog 81 #[.slice (some ⟨g, 0, none⟩) lo co, .slice A2 l2 c2] w fun e w' => ∃ v os', e = .returned v ∧ Row w' g os' ∧ os'.length = lo ∧ val os' + val xs = val os ∧ Grew w w' g := by
  have HF := Lib.hid hfit
  have HLO := Lib.hid elo
  have HL2 := Lib.hid el2
  have hloI : (lo : Int) ≤ 1099511627776 := by omega
  have hatI : (l2 : Int) ≤ (lo : Int) := by omega
  have HAT := Lib.hid hat
  clear hfit elo el2 hat hl
  go_enter Try.func81, Try.ntmps81
  go_wp2_with fail
  go_loopw [4, 9] (fun t4 t9 wr => ∃ (i c : Nat) (os1 : List Nat), i ≤ l2 ∧ c ≤ 1 ∧ t4 = .int .u64 (c : Int) ∧ t9 = .int .i64 (i : Int) ∧ Hid (os1.length = lo) ∧ Hid (Row wr g os1) ∧ Hid (Grew w wr g) ∧ Hid (os1.drop i = os.drop i) ∧ Hid (val (os1.take i) + val (xs.take i) = val (os.take i) + W64 ^ i * c)) (fun _ t9 _ => l2 - (intOf t9).toNat)
  case atStart => exact ⟨0, 0, os, by omega, by omega, rfl, rfl, Lib.hid HLO.out.symm, Lib.hid hrow0, Lib.hid (Grew.refl _ _), Lib.hid rfl, Lib.hid (by simp)⟩
  case round =>
    obtain ⟨i, c, os1, hi, hc, rfl, rfl, HO, HROW, HGR, HD, HV⟩ := hrel
    by_cases hlt : i < l2
    · have HLV := Lib.hid (h2.off HGR.out.1 hne)
      obtain ⟨ad, rfl, hb2, hcell⟩ := HLV.out.at_ (k := i) (by rw [← HL2.out]; exact hlt)
      obtain ⟨y, hy⟩ : ∃ y, xs.getD i 0 = y := ⟨_, rfl⟩
      obtain ⟨u, hu⟩ : ∃ u, os1.getD i 0 = u := ⟨_, rfl⟩
      have hyW : y < W64 := hy ▸ h2.small.getD i
      have huW : u < W64 := hu ▸ HROW.out.small.getD i
      rw [hy] at hcell
      have hcg := HROW.out.cell (k := i) (by rw [HO.out]; have := HAT.out; omega)
      rw [hu] at hcg
      have hfg := HROW.out.free i
      have HSTEP := Lib.hid (show val ((os1.set i (subLo u y c)).take (i + 1)) + val (xs.take (i + 1)) = val (os.take (i + 1)) + W64 ^ (i + 1) * subHi u y c by
        have hV := HV.out
        have hu2 : os.getD i 0 = u := by rw [← hu]; exact (getD_of_drop HD.out).symm
        rw [val_take_set os1 _ _ (by rw [HO.out]; have := HAT.out; omega), val_take_step os, val_take_step xs, hy, hu2, Nat.pow_succ]
        exact borrow_step hV (sub_split huW hyW hc))
      have hc1 := subHi_le u y c
      have HO2 := Lib.hid (show (os1.set i (subLo u y c)).length = lo by rw [List.length_set, HO.out])
      have HD2 := Lib.hid (show (os1.set i (subLo u y c)).drop (i + 1) = os.drop (i + 1) by
        rw [List.drop_set_of_lt (by omega)]; exact drop_more HD.out 1)
      have ha := sub64_run u y c hc
      have r1 := later_cell hcell
      have r2 := later_cell hcg
      have hiI : (i : Int) < (l2 : Int) := by omega
      have hiI2 : (i : Int) < (lo : Int) := by omega
      have HU := Lib.hid (And.intro hu hy)
      clear hu hy
      go_wp2_with fail
      have HGN := Lib.hid (fun m => (HGR.out.drewN m).set (i) (.int .u64 (subLo u y c : Nat)))
      have HSN := Lib.hid (fun m => show Row ((wr.drewN m).setCell ⟨g, i, none⟩ (.int .u64 (subLo u y c : Nat))) g (os1.set i (subLo u y c)) from (HROW.out.drewN m).set (by rw [HO.out]; omega) (subLo_lt _ _ _))
      go_region_with (fail)
      all_goals
        go_wp2_with fail
        exact ⟨⟨i + 1, _, _, by omega, hc1, rfl, by go_num, HO2, Lib.hid (HSN.out _), Lib.hid (HGN.out _), HD2, HSTEP⟩, by simp [intOf]; omega⟩
    · obtain rfl : i = l2 := by omega
      have hiI : ¬ ((i : Int) < (i : Int)) := by omega
      go_wp2_with fail
      clear hi
      obtain ⟨wo, hwo⟩ : ∃ wo : World, wo = wr := ⟨_, rfl⟩
      subst hwo
      have hxs : xs.take i = xs := List.take_of_length_le (by rw [← HL2.out]; exact Nat.le_refl _)
      rw [hxs] at HV
      clear hxs
      go_loopw [4, 6] (fun t6 t8 wr => ∃ (j c : Nat) (os1 : List Nat), j ≤ lo ∧ c ≤ 1 ∧ t6 = .int .u64 (c : Int) ∧ t8 = .int .i64 (j : Int) ∧ Hid (os1.length = lo) ∧ Hid (Row wr g os1) ∧ Hid (Grew w wr g) ∧ Hid (os1.drop j = os.drop j) ∧ Hid (val (os1.take j) + val xs = val (os.take j) + W64 ^ j * c)) (fun _ t8 _ => lo - (intOf t8).toNat)
      case atStart => exact ⟨i, c, os1, HAT.out, hc, rfl, rfl, HO, HROW, HGR, HD, HV⟩
      case round =>
        clear HO HROW HGR HD HV hc
        obtain ⟨j, c, os1, hj, hc, rfl, rfl, HO, HROW, HGR, HD, HV⟩ := hrel
        rcases Nat.eq_zero_or_pos c with hc0 | hc0
        · subst hc0
          have HFIN := Lib.hid (show val os1 + val xs = val os by
            have h1 := val_split os1 j (by rw [HO.out]; exact hj)
            have h2 := val_split os j (by rw [← HLO.out]; exact hj)
            have h3 := HV.out
            rw [HD.out] at h1
            rw [Nat.mul_zero, Nat.add_zero] at h3
            omega)
          go_wp2_with fail
          go_end0
          exact ⟨_, os1, rfl, HROW.out, HO.out, HFIN.out, HGR.out⟩
        · obtain rfl : c = 1 := by omega
          have hjl : j < lo := by
            rcases Nat.lt_or_ge j lo with h | h
            · exact h
            · exfalso
              obtain rfl : j = lo := by omega
              have h1 := HV.out
              rw [List.take_of_length_le (l := os1) (by rw [HO.out]; exact Nat.le_refl _), List.take_of_length_le (l := os) (by rw [← HLO.out]; exact Nat.le_refl _)] at h1
              have h3 := val_lt HROW.out.small
              rw [HO.out] at h3
              have := HF.out
              omega
          obtain ⟨u, hu⟩ : ∃ u, os1.getD j 0 = u := ⟨_, rfl⟩
          have huW : u < W64 := hu ▸ HROW.out.small.getD j
          have hcg := HROW.out.cell (k := j) (by rw [HO.out]; exact hjl)
          rw [hu] at hcg
          have hfg := HROW.out.free j
          have HSTEP := Lib.hid (show val ((os1.set j (subLo u 0 1)).take (j + 1)) + val xs = val (os.take (j + 1)) + W64 ^ (j + 1) * subHi u 0 1 by
            have hV := HV.out
            have hu2 : os.getD j 0 = u := by rw [← hu]; exact (getD_of_drop HD.out).symm
            rw [val_take_set os1 _ _ (by rw [HO.out]; exact hjl), val_take_step os, hu2, Nat.pow_succ]
            have h6 := borrow_step hV (sub_split huW W64_pos (Nat.le_refl 1))
            rwa [Nat.mul_zero, Nat.add_zero] at h6)
          have hc1 := subHi_le u 0 1
          have HSET := Lib.hid (HROW.out.set (k := j) (x := subLo u 0 1) (by rw [HO.out]; exact hjl) (subLo_lt _ _ _))
          have HGR2 := Lib.hid (HGR.out.set (j) (.int .u64 (subLo u 0 1 : Nat)))
          have HO2 := Lib.hid (show (os1.set j (subLo u 0 1)).length = lo by rw [List.length_set, HO.out])
          have HD2 := Lib.hid (show (os1.set j (subLo u 0 1)).drop (j + 1) = os.drop (j + 1) by
            rw [List.drop_set_of_lt (by omega)]; exact drop_more HD.out 1)
          have ha := sub64_run u 0 1 (Nat.le_refl 1)
          rw [Int.natCast_zero, Int.natCast_one] at ha
          have hjI : (j : Int) < (lo : Int) := by omega
          have HU := Lib.hid hu
          clear hu
          go_wp2_with fail
          exact ⟨⟨j + 1, _, _, by omega, hc1, rfl, by go_num, HO2, HSET, HGR2, HD2, HSTEP⟩, by simp [intOf]; omega⟩
theorem zeros_cells (n : Nat) : (madeCells #[.int .u64 0] n : Array Value) = (nums (List.replicate n 0)).toArray := by
  apply Array.ext'
  rw [toList_madeCells_one]
  simp [nums]
section
variable {ops : Array Oper} {rest : List Oper} {o : Oper} {a : Act} {Q : Exit → Act → World → Prop}
/-- copy(out, x): out is new, all noughts. -/
theorem copy_made {w0 W : World} {B0 B : Nat} (hgd : o.guard = none) (d s : Operand)
    (ho : o.op = .call { callee := .builtin .copy, args := #[d, s], argTypes := #[22, 22] })
    (g n c : Nat) (A : Option Addr) (l cs : Nat) (xs : List Nat) (hd : a.eval d = .slice (some ⟨g, 0, none⟩) n c) (hs : a.eval s = .slice A l cs)
    (hrow : W.heap[g]? = some (.cells (madeCells #[.int .u64 0] n) 53 (0, 0))) (hl : l = xs.length) (hle : l ≤ n) (hlim : Lim W B A xs) (hb : Below B0 w0 W) (hBg : B0 ≤ g)
    (h : ∀ w' u, Row w' g (xs ++ List.replicate (n - l) 0) → Fresh w' g (some ⟨g, 0, none⟩) n → Below B0 w0 w' → wpList Try.prog ops Q rest (a.put o.dst u) w') :
    wpList Try.prog ops Q (o :: rest) a W := by
  subst hl
  rw [zeros_cells] at hrow
  obtain ⟨i0, hi, hz0, hz1, hz2⟩ := info_parts info_u64
  refine wpList_copy_splice hgd d s 22 22 ho 53 Try.underlying22 (by rw [hi]; simp [hz1]) _ A n c xs.length cs hd hs g 0 (nums (List.replicate n 0)) 53 hrow (nums xs) (by rw [nums_length]; exact (Nat.min_eq_left hle).symm) (fun hp => ?_) (by rw [nums_length, nums_length]; simp; omega) (fun v hv => ?_) B0 w0 hb hBg fun w' hw hb' => ?_
  · rw [nums_length] at hp
    obtain ⟨ad, ha, _, hc⟩ := hlim.cells hp
    refine ⟨rfl, ad, ha, fun j v hj => ?_⟩
    have hjl : j < xs.length := by have := (List.getElem?_eq_some_iff.1 hj).1; simpa [nums] using this
    rw [hc j hjl, ← hj]
    simp [nums, hjl]
  · obtain ⟨y, _, rfl⟩ := List.mem_map.1 hv
    rfl
  · have hw := hw.out
    have e : splice (nums (List.replicate n 0)) 0 (nums xs) = nums (xs ++ List.replicate (n - xs.length) 0) := by
      simp [splice, nums, List.drop_replicate]
    rw [e] at hw
    refine h w' _ ⟨hlim.small.append (Small.zeros _), _, _, hw, by simp [nums], fun i hi => ?_⟩ (.inr ⟨g, _, rfl, Nat.le_refl _, hw, by simp [nums]; omega⟩) hb'
    rw [List.getElem?_toArray]
    simp only [nums, List.getElem?_map, List.getD_eq_getElem?_getD]
    rw [List.getElem?_eq_getElem hi]
    rfl
end
theorem sum_fits {xs ys : List Nat} (hx : Small xs) (hy : Small ys) {m : Nat} (h1 : xs.length ≤ m) (h2 : ys.length ≤ m) : val xs + val ys < W64 ^ (m + 1) := by
  have a := val_lt hx
  have b := val_lt hy
  have c : W64 ^ xs.length ≤ W64 ^ m := Nat.pow_le_pow_right W64_pos h1
  have d : W64 ^ ys.length ≤ W64 ^ m := Nat.pow_le_pow_right W64_pos h2
  have e : 2 * W64 ^ m ≤ W64 ^ (m + 1) := by
    rw [Nat.pow_succ, Nat.mul_comm 2]
    exact Nat.mul_le_mul_left _ (by rw [W64_eq]; omega)
  omega
theorem Lim.far {w : World} {B g : Nat} {A : Option Addr} {xs : List Nat} (h : Lim w B A xs) (hg : B ≤ g) (hn : 0 < xs.length) (ad : Addr) (e : A = some ad) : ad.block ≠ g := by
  obtain ⟨a, ha, hb, _⟩ := h.cells hn
  rw [ha] at e
  injection e with e
  subst e
  omega
set_option maxHeartbeats 1000000 in
set_option maxRecDepth 100000 in
theorem times_sum (A1 A2 : Option Addr) (l1 l2 c1 c2 : Nat) (xs ys : List Nat) (w : World) (h1 : Lim w w.heap.size A1 xs) (h2 : Lim w w.heap.size A2 ys) (e1 : l1 = xs.length) (e2 : l2 = ys.length) (hl1 : l1 ≤ 274877906944) (hl2 : l2 ≤ 274877906944) :
    Calls Try.prog 80 #[.slice A1 l1 c1, .slice A2 l2 c2] w fun e w' => ∃ A c, e = .returned (.slice A (limbs (val xs + val ys)).length c) ∧ (limbs (val xs + val ys)).length ≤ c ∧ Lim w' w'.heap.size A (limbs (val xs + val ys)) ∧ Fresh w' w.heap.size A c ∧ Below w.heap.size w w' := by
  obtain ⟨m, hm⟩ : ∃ m, max l1 l2 = m := ⟨_, rfl⟩
  have hmI : max (l1 : Int) (l2 : Int) = (m : Int) := by omega
  have hmk := make_limbs_succ m (by omega)
  have mI : (m : Int) ≤ 274877906944 := by omega
  have HM := Lib.hid (show l1 ≤ m ∧ l2 ≤ m ∧ m ≤ 274877906944 by omega)
  have H1 := Lib.hid h1
  have H2 := Lib.hid h2
  have E1 := Lib.hid e1
  have E2 := Lib.hid e2
  clear h1 h2 e1 e2 hl1 hl2 hm
  go_enter Try.func80, Try.ntmps80
  go_upto_region 2 with (fail)
  obtain ⟨W0, g, hW0, hg⟩ : ∃ W g, w.alloc (.cells (madeCells #[.int .u64 0] (m + 1)) 53) = W ∧ w.heap.size = g := ⟨_, _, rfl, rfl⟩
  have hb0 : Below w.heap.size w W0 := by rw [← hW0]; exact (Below.refl _ _).alloc (Nat.le_refl _) _
  have HROW := Lib.hid (show W0.heap[g]? = some (.cells (madeCells #[.int .u64 0] (m + 1)) 53 (0, 0)) by rw [← hW0, ← hg]; exact heap_alloc_new w _)
  have HG := Lib.hid (show w.heap.size ≤ g by omega)
  have HB := Lib.hid hb0
  rw [hW0, hg]
  clear hW0 hg hb0 hmk hmI
  go_wp2_with (refine copy_made (w0 := w) (B0 := w.heap.size) rfl (.tmp 13) (.tmp 14) rfl g (m + 1) (m + 1) A1 l1 c1 xs (by rfl) (by rfl) HROW.out E1.out (by have := HM.out; omega) (H1.out.below HB.out) HB.out HG.out fun w1 u1 hr hf hb => ?_)
  have HR := Lib.hid hr
  have HFR := Lib.hid hf
  replace HB := Lib.hid hb
  clear hr hf hb
  go_wp2_with fail
  have HLEN := Lib.hid (show m + 1 = (xs ++ List.replicate (m + 1 - l1) 0).length by rw [List.length_append, List.length_replicate, ← E1.out]; have := HM.out; omega)
  have HV := Lib.hid (show val (xs ++ List.replicate (m + 1 - l1) 0) = val xs by rw [val_append, val_zeros, Nat.mul_zero, Nat.add_zero])
  have C := times_put g (m + 1) (m + 1) 0 _ A2 l2 c2 ys w1 HR.out ((H2.out.below HB.out).more HB.out.size) (H2.out.far HG.out) HLEN.out E2.out (by have := HM.out; omega) (by
    rw [HV.out, Nat.pow_zero, Nat.one_mul]
    exact sum_fits H1.out.small H2.out.small (by rw [← E1.out]; exact HM.out.1) (by rw [← E2.out]; exact HM.out.2.1)) (by have := HM.out; omega)
  rw [Int.natCast_zero] at C
  refine C.mono ?_
  rintro e w2 ⟨v, os, rfl, hrow, hlen, hval, hgr⟩
  rw [HV.out, Nat.pow_zero, Nat.one_mul] at hval
  have HR2 := Lib.hid hrow
  have HL2 := Lib.hid hlen
  have HV2 := Lib.hid hval
  have HB2 := Lib.hid (below_grown HB.out HB.out.size hgr.1 HG.out)
  have HF2 := Lib.hid (show Fresh w2 g (some ⟨g, 0, none⟩) (m + 1) from hgr.2 _ _ HFR.out)
  clear C hrow hlen hval hgr
  go_wp2_with fail
  have T := times_trim (some ⟨g, 0, none⟩) (m + 1) os w2 HR2.out.lim' (by rw [HL2.out]; exact Nat.le_refl _) (by rw [HL2.out]; have := HM.out; omega)
  rw [HL2.out, HV2.out] at T
  refine T.mono ?_
  rintro e w3 ⟨rfl, rfl⟩
  clear T
  go_wp2_with fail
  go_ret
  have hl3 := limbs_val_le HR2.out.small
  have ht := HR2.out.lim'.trim
  rw [HV2.out] at hl3 ht
  exact ⟨_, _, rfl, by rw [← HL2.out]; exact hl3, ht, HF2.out.since HG.out, HB2.out⟩
end Go.Proofs.Ytonbhpadoplpkaa
