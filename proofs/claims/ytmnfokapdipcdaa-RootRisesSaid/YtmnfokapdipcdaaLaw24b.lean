import Derived.Test.YtmnfokapdipcdaaAwake
/- The laws of layer 24: sign, Pick, cut, poly. -/
namespace Go.Proofs.Ytmnfokapdipcdaa
open Go.RowKit Go.Deep
set_option maxRecDepth 100000 in
theorem law_sign (b : Bool) (w : World) : Calls Try.prog 30 #[.bool b] w fun e w' => e = .returned (.int .i64 (if b then -1 else 1)) ∧ w = w' := by
  cases b
  all_goals
    go_enter Try.func30, Try.ntmps30
    go_wp2_with fail
    go_ret
    exact ⟨rfl, rfl⟩
set_option maxRecDepth 100000 in
theorem kit_pick (x : Int) (n : Nat) (w : World) (hn : 1 ≤ n) (hn2 : n ≤ 1000) : Calls Try.prog 31 #[.int .i64 x, .int .i64 (n : Int)] w fun e w' => e = .returned (.int .i64 (x % (n : Int))) ∧ w = w' := by
  have h1 : (1 : Int) ≤ (n : Int) := by omega
  have h2 : (n : Int) ≤ 1000 := by omega
  have h0 : ((n : Int) == 0) = false := beq_eq_false_iff_ne.2 (by omega)
  obtain ⟨r, hr⟩ : ∃ r, x.tmod (n : Int) = r := ⟨_, rfl⟩
  have hrb : -(n : Int) < r ∧ r < (n : Int) := by
    rw [← hr]
    have h3 := Int.tmod_lt_of_pos x (b := (n : Int)) (by omega)
    have h4 := Int.lt_tmod_of_pos x (b := (n : Int)) (by omega)
    exact ⟨h4, h3⟩
  have HE := Lib.hid (show x % (n : Int) = if r < 0 then r + (n : Int) else r by
    rw [← hr]
    by_cases hx : 0 ≤ x
    · rw [Int.tmod_eq_emod_of_nonneg hx]
      have := Int.emod_nonneg x (b := (n : Int)) (by omega)
      rw [if_neg (by omega)]
    · have h5 := Int.tmod_eq_emod (a := x) (b := (n : Int))
      have h6 := Int.emod_nonneg x (b := (n : Int)) (by omega)
      have h7 := Int.emod_lt_of_pos x (b := (n : Int)) (by omega)
      rw [h5]
      split
      · rename_i hc
        rcases hc with hc | hc
        · omega
        · have := Int.emod_eq_zero_of_dvd hc
          rw [if_neg (by omega)]; omega
      · have h8 : ((n : Int).natAbs : Int) = (n : Int) := by omega
        rw [if_pos (by omega)]; omega)
  obtain ⟨hr1, hr2⟩ := hrb
  have HN := Lib.hid hn
  clear hn hn2
  by_cases hneg : r < 0
  · rw [HE.out, if_pos hneg]
    go_enter Try.func31, Try.ntmps31
    go_wp2_with fail
    go_ret
    exact ⟨rfl, rfl⟩
  · rw [HE.out, if_neg hneg]
    have hr0 : 0 ≤ r := by omega
    go_enter Try.func31, Try.ntmps31
    go_wp2_with fail
    go_ret
    exact ⟨rfl, rfl⟩
/-- How many of the first k records stand up to the last that is not 0. -/
def topR (xs : List Raw) : Nat → Nat
  | 0 => 0
  | k + 1 => if (xs.getD k (false, [])).2.length = 0 then topR xs k else k + 1
theorem topR_le (xs : List Raw) : ∀ k, topR xs k ≤ k
  | 0 => Nat.le_refl _
  | k + 1 => by
    have := topR_le xs k
    unfold topR; split <;> omega
/-- Cut off at n, without noughts on top. -/
def cutR (xs : List Raw) (n : Nat) : List Raw := xs.take (topR xs (min xs.length n))
theorem cutR_len (xs : List Raw) (n : Nat) : (cutR xs n).length = topR xs (min xs.length n) := by
  unfold cutR
  have := topR_le xs (min xs.length n)
  rw [List.length_take]; omega
theorem Poly.take {w : World} {B : Nat} {A : Option Addr} {xs : List Raw} (h : Poly w B A xs) (k : Nat) : Poly w B A (xs.take k) := by
  refine ⟨fun hp => ?_⟩
  rw [List.length_take] at hp
  obtain ⟨ad, e, hb, hc⟩ := h.cells (by omega)
  refine ⟨ad, e, hb, fun j hj => ?_⟩
  rw [List.length_take] at hj
  have e1 : (xs.take k).getD j (false, []) = xs.getD j (false, []) := by
    have h1 : j < k := by omega
    have h2 : j < xs.length := by omega
    simp [h1, h2]
  rw [e1]
  exact hc j (by omega)
set_option maxHeartbeats 400000 in
set_option maxRecDepth 100000 in
theorem law_cut (A : Option Addr) (l c n : Nat) (xs : List Raw) (w : World) {B : Nat} (h1 : Poly w B A xs) (e1 : l = xs.length) (hc : l ≤ c) (hn : n ≤ 4096) :
    Calls Try.prog 32 #[.slice A l c, .int .i64 (n : Int)] w fun e w' => e = .returned (.slice A (cutR xs n).length c) ∧ w = w' := by
  have HL := Lib.hid e1
  have hnI : (n : Int) ≤ 4096 := by omega
  have hcI : (l : Int) ≤ (c : Int) := by omega
  rw [cutR_len]
  obtain ⟨m, hm⟩ : ∃ m, topR xs (min xs.length n) = m := ⟨_, rfl⟩
  rw [hm]
  by_cases hln : n < l
  · have HM := Lib.hid (show topR xs n = m by rw [← hm, ← e1, Nat.min_eq_right (by omega)])
    have hlnI : (n : Int) < (l : Int) := by omega
    have hncI : (n : Int) ≤ (c : Int) := by omega
    clear e1 hm
    go_enter Try.func32, Try.ntmps32
    go_upto_block 0 with (fail)
    go_cut [0] (fun t0 wx => w = wx ∧ t0 = .slice A m c)
    case first =>
      go_wp2_with fail
      go_loopg [0] n (fun gk t0 wr => gk ≤ n ∧ w = wr ∧ t0 = .slice A gk c ∧ topR xs gk = m)
      case atStart => exact ⟨by omega, rfl, rfl, HM.out⟩
      case round =>
        obtain ⟨hk, rfl, rfl, htop⟩ := hrel
        have HT := Lib.hid htop
        clear htop
        by_cases h0 : gk = 0
        · subst h0
          have HE := Lib.hid (show m = 0 by rw [← HT.out]; rfl)
          go_wp2_with fail
          go_meet
          rw [HE.out]
          exact ⟨rfl, rfl⟩
        · obtain ⟨q, rfl⟩ : ∃ q, gk = q + 1 := ⟨gk - 1, by omega⟩
          obtain ⟨ad, Am, lm, cm, rfl, _, hc0, hc1, hlm, hcm, _⟩ := h1.at_ (k := q) (by rw [← HL.out]; omega)
          have hqI : ((q + 1 : Nat) : Int) - 1 = (q : Int) := by omega
          have hq1 : (0 : Int) < ((q + 1 : Nat) : Int) := by omega
          have hqn : (q : Int) < ((q + 1 : Nat) : Int) := by omega
          have hql : (q : Int) ≤ (c : Int) := by omega
          have HLM := Lib.hid hlm
          obtain ⟨k, hkk⟩ : ∃ k, q + 1 = k := ⟨_, rfl⟩
          rw [hkk] at hk hqI hq1 hqn ⊢
          have HK := Lib.hid hkk
          have hkI : (k : Int) ≤ (c : Int) := by omega
          clear h0 hkk hc0 hlm
          by_cases hz : lm = 0
          · subst hz
            have HT2 := Lib.hid (show topR xs q = m by rw [← HT.out]; exact (if_pos HLM.out.symm).symm)
            go_wp2_with fail
            go_roundg q
            case measure => have := HK.out; omega
            case rel => exact ⟨by omega, rfl, rfl, HT2.out⟩
          · have HE := Lib.hid (show m = k by rw [← HT.out, ← HK.out]; exact if_neg (fun e => hz (by rw [HLM.out, e])))
            have tz : ((lm : Int) == 0) = false := beq_eq_false_iff_ne.2 (by omega)
            clear hz
            go_wp2_with fail
            go_meet
            rw [HE.out]
            exact ⟨rfl, rfl⟩
    case rest =>
      obtain ⟨rfl, rfl⟩ := hcut
      go_wp2_with fail
      go_ret
      exact ⟨rfl, rfl⟩
  · have HM := Lib.hid (show topR xs l = m by rw [← hm, ← e1, Nat.min_eq_left (by omega)])
    have hlnI : (l : Int) ≤ (n : Int) := by omega
    clear e1 hm
    go_enter Try.func32, Try.ntmps32
    go_upto_block 0 with (fail)
    go_cut [0] (fun t0 wx => w = wx ∧ t0 = .slice A m c)
    case first =>
      go_wp2_with fail
      go_loopg [0] l (fun gk t0 wr => gk ≤ l ∧ w = wr ∧ t0 = .slice A gk c ∧ topR xs gk = m)
      case atStart => exact ⟨by omega, rfl, rfl, HM.out⟩
      case round =>
        obtain ⟨hk, rfl, rfl, htop⟩ := hrel
        have HT := Lib.hid htop
        clear htop
        by_cases h0 : gk = 0
        · subst h0
          have HE := Lib.hid (show m = 0 by rw [← HT.out]; rfl)
          go_wp2_with fail
          go_meet
          rw [HE.out]
          exact ⟨rfl, rfl⟩
        · obtain ⟨q, rfl⟩ : ∃ q, gk = q + 1 := ⟨gk - 1, by omega⟩
          obtain ⟨ad, Am, lm, cm, rfl, _, hc0, hc1, hlm, hcm, _⟩ := h1.at_ (k := q) (by rw [← HL.out]; omega)
          have hqI : ((q + 1 : Nat) : Int) - 1 = (q : Int) := by omega
          have hq1 : (0 : Int) < ((q + 1 : Nat) : Int) := by omega
          have hqn : (q : Int) < ((q + 1 : Nat) : Int) := by omega
          have hql : (q : Int) ≤ (c : Int) := by omega
          have HLM := Lib.hid hlm
          obtain ⟨k, hkk⟩ : ∃ k, q + 1 = k := ⟨_, rfl⟩
          rw [hkk] at hk hqI hq1 hqn ⊢
          have HK := Lib.hid hkk
          have hkI : (k : Int) ≤ (c : Int) := by omega
          clear h0 hkk hc0 hlm
          by_cases hz : lm = 0
          · subst hz
            have HT2 := Lib.hid (show topR xs q = m by rw [← HT.out]; exact (if_pos HLM.out.symm).symm)
            go_wp2_with fail
            go_roundg q
            case measure => have := HK.out; omega
            case rel => exact ⟨by omega, rfl, rfl, HT2.out⟩
          · have HE := Lib.hid (show m = k by rw [← HT.out, ← HK.out]; exact if_neg (fun e => hz (by rw [HLM.out, e])))
            have tz : ((lm : Int) == 0) = false := beq_eq_false_iff_ne.2 (by omega)
            clear hz
            go_wp2_with fail
            go_meet
            rw [HE.out]
            exact ⟨rfl, rfl⟩
    case rest =>
      obtain ⟨rfl, rfl⟩ := hcut
      go_wp2_with fail
      go_ret
      exact ⟨rfl, rfl⟩
theorem info_int : (Try.prog.info? 3).map (fun i => (i.zero, i.size, i.bytes)) = some (some (.int .i64 0), 1, 8) := by kernel_rfl
/-- The value v is nil or a row of one's own of the numbers l. -/
structure IOwn (w : World) (base : Nat) (v : Value) (l : List Int) : Prop where
  own : w.ownsRow base 3 1 v l.length (l.map (Value.int .i64))
theorem IOwn.nil (w : World) (base : Nat) : IOwn w base (.slice none 0 0) [] := ⟨World.ownsRow_nil _ _ _ _⟩
theorem IOwn.form {w : World} {base : Nat} {v : Value} {l : List Int} (h : IOwn w base v l) : ∃ A c, v = .slice A l.length c ∧ l.length ≤ c ∧ Nums w w.heap.size A l := by
  have hown := h.own
  rcases h.own.2 with ⟨rfl, hx⟩ | ⟨g, cap, cur, rfl, hg, hh, hnc, h63, hcap, hpre⟩
  · have e : l = [] := List.eq_nil_of_length_eq_zero hx
    subst e
    exact ⟨none, 0, rfl, Nat.le_refl _, Nums.nil _ _ _⟩
  · refine ⟨_, cap, rfl, hnc, ⟨fun _ => ⟨_, rfl, (Array.getElem?_eq_some_iff.1 hh).1, fun j hj => ?_⟩⟩⟩
    exact hown.cells (g := g) rfl j (.int .i64 (l.getD j 0)) (by simp [hj])
theorem IOwn.prefix {w : World} {base : Nat} {A : Option Addr} {c : Nat} {l : List Int} (h : IOwn w base (.slice A l.length c) l) {n : Nat} (hn : n ≤ l.length) : IOwn w base (.slice A n c) (l.take n) := by
  have hl : (l.take n).length = n := by rw [List.length_take]; omega
  refine ⟨by simp, ?_⟩
  rw [hl]
  rcases h.own.2 with ⟨hv, hx⟩ | ⟨g, cap, cur, hv, hg, hh, hnc, h63, hcap, hpre⟩
  · have : n = 0 := by omega
    subst this
    injection hv with h1 h2 h3
    exact .inl ⟨by rw [h1, h3], rfl⟩
  · injection hv with h1 h2 h3
    refine .inr ⟨g, cap, cur, by rw [h1, h3], hg, hh, by omega, h63, hcap, ?_⟩
    rw [Nat.mul_one] at hpre ⊢
    have := congrArg (List.take n) hpre
    rw [List.take_take, Nat.min_eq_left hn] at this
    rw [this, List.map_take]
section
variable {ops : Array Oper} {rest : List Oper} {o : Oper} {a : Act} {Q : Exit → Act → World → Prop}
theorem append_int {w0 W : World} (base : Nat) (hgd : o.guard = none) (s x : Operand)
    (ho : o.op = .call { callee := .builtin .append, args := #[s, x], argTypes := #[37, 37] })
    (v : Value) (l : List Int) (ad : Addr) (m c : Nat) (ys : List Int) (hs : a.eval s = v) (hx : a.eval x = .slice (some ad) m c) (hm : m = ys.length)
    (hcell : ∀ j, j < ys.length → W.cell? (ad.add j) = some (.int .i64 (ys.getD j 0)))
    (HO : IOwn W base v l) (HB : Below base w0 W) (hbase : base ≤ W.heap.size) (hl : l.length + ys.length ≤ 1000000)
    (h : ∀ v1 w1, IOwn w1 base v1 (l ++ ys) → Below base w0 w1 → wpList Try.prog ops Q rest (a.put o.dst v1) w1) :
    wpList Try.prog ops Q (o :: rest) a W := by
  obtain ⟨i0, hi, hz0, hz1, hz2⟩ := info_parts info_int
  subst hm
  refine wpList_append_own_at W hgd s x 37 ho base 3 i0 (.int .i64 0) 1 8 Try.underlying37 hi hz0 hz1 hz2 rfl (by omega) v l.length (l.map (Value.int .i64)) hs HO.own ad ys.length c (ys.map (Value.int .i64)) hx (by simp)
    (fun j u hu => ?_) (fun u hu => ?_) (by simp only [maxLen]; omega) (by omega) hbase ?_
  · have hj : j < ys.length := by
      have := (List.getElem?_eq_some_iff.1 hu).1
      simpa using this
    rw [hcell j hj, ← hu]
    simp [hj]
  · obtain ⟨y, _, rfl⟩ := List.mem_map.1 hu
    rfl
  · intro v1 w1 hown hg _ _
    exact h v1 w1 ⟨by rw [List.length_append, List.map_append]; exact hown⟩ (HB.grown hg hbase fun k hk => (HO.own.lt k hk).1)
theorem append_int1 {w0 W : World} (base : Nat) (hgd : o.guard = none) (s x : Operand)
    (ho : o.op = .call { callee := .builtin .append, args := #[s, x], argTypes := #[37, 37] })
    (v : Value) (l : List Int) (y : Int) (hs : a.eval s = v) (hx : a.eval x = .slice (some ⟨W.heap.size, 0, none⟩) 1 1)
    (HO : IOwn W base v l) (HB : Below base w0 W) (hbase : base ≤ W.heap.size) (hl : l.length + 1 ≤ 1000000)
    (h : ∀ v1 w1, IOwn w1 base v1 (l ++ [y]) → Below base w0 w1 → wpList Try.prog ops Q rest (a.put o.dst v1) w1) :
    wpList Try.prog ops Q (o :: rest) a (W.alloc (.cells #[.int .i64 y] 3)) := by
  refine append_int (w0 := w0) base hgd s x ho v l ⟨W.heap.size, 0, none⟩ 1 1 [y] hs hx rfl (fun j hj => ?_) ⟨HO.own.alloc _⟩ (HB.alloc hbase _) (by simp; omega) (by simpa using hl) h
  have e : j = 0 := by simpa using hj
  subst e
  rw [add_plain, cell_of_row _ _ _ _ _ (0, 0) (heap_alloc_new W _)]
  rfl
end
/-- The numbers that a polynomial is made of, ahead of the cut. -/
def rawL (l first : List Int) (k : Nat) : List Int := first ++ (l.take k).map (fun x => x % 101 - 50)
theorem rawL_succ {l first : List Int} {k : Nat} (h : k < l.length) : rawL l first (k + 1) = rawL l first k ++ [l.getD k 0 % 101 - 50] := by
  unfold rawL
  rw [List.take_succ_eq_append_getElem h, List.map_append, List.append_assoc]
  simp [h]
/-- Without noughts on top. -/
def trimI (l : List Int) : List Int := l.take (topZ (atL l) l.length)
set_option maxHeartbeats 800000 in
set_option maxRecDepth 100000 in
theorem law_poly (A : Option Addr) (F : Addr) (m c m2 c2 : Nat) (l first : List Int) (w : World) (h1 : Nums w w.heap.size A l) (h2 : ∀ j, j < first.length → w.cell? (F.add j) = some (.int .i64 (first.getD j 0))) (e1 : m = l.length) (e2 : m2 = first.length) (hf : first.length ≤ 4) (hm : (m : Int) ≤ 9223372036854775807)
    (hs : ∀ x ∈ first, -1000 < x ∧ x < 1000) :
    Calls Try.prog 29 #[.slice A m c, .slice (some F) m2 c2] w fun e w' => ∃ v, e = .returned v ∧ Told w' w.heap.size v ((trimI (rawL l first (min l.length 12))).map rawOf) ∧ Below w.heap.size w w' := by
  have HL := Lib.hid e1
  have HL2 := Lib.hid e2
  have HF := Lib.hid hf
  have HFS := Lib.hid hs
  obtain ⟨N, hN⟩ : ∃ N, min l.length 12 = N := ⟨_, rfl⟩
  rw [hN]
  have HN := Lib.hid (show N ≤ l.length ∧ N ≤ 12 ∧ (N = l.length ∨ N = 12) by omega)
  clear e1 e2 hf hs hN
  go_enter Try.func29, Try.ntmps29
  have HLE := Lib.hid (show ([] : List Int).length + first.length ≤ 1000000 by have := HF.out; simp; omega)
  have HM := Lib.hid hm
  clear hm
  go_wp2_with (at_builtin; refine append_int (w0 := w) w.heap.size rfl _ _ rfl _ [] F m2 c2 first (by rfl) (by rfl) HL2.out h2 (IOwn.nil _ _) (Below.refl _ _) (Nat.le_refl _) HLE.out ?_)
  intro v1 w1 ho1 hb1
  clear h2
  go_upto_block 0 with (fail)
  go_cut [5] (fun t5 wx => IOwn wx w.heap.size t5 (rawL l first N) ∧ Below w.heap.size w wx)
  case first =>
    go_wp2_with fail
    go_loopg [5, 6] 12 (fun gk t5 t6 wr => ∃ k : Nat, k + gk = 12 ∧ k ≤ N ∧ t6 = .int .i64 (k : Int) ∧ IOwn wr w.heap.size t5 (rawL l first k) ∧ Below w.heap.size w wr)
    case atStart => exact ⟨0, by omega, by omega, rfl, by simpa [rawL] using ho1, hb1⟩
    case round =>
      clear ho1 hb1
      obtain ⟨k, hk, hkN, rfl, hown, hbel⟩ := hrel
      obtain ⟨A5, c5, rfl, hc5, _⟩ := hown.form
      have HK := Lib.hid (And.intro hk hkN)
      clear hc5
      by_cases hlt : k < N
      · have HKL := Lib.hid (show k < l.length by have := HN.out; omega)
        obtain ⟨ad, rfl, _, hc⟩ := (h1.below hbel).at_ HKL.out
        obtain ⟨x, hx⟩ : ∃ x, l.getD k 0 = x := ⟨_, rfl⟩
        rw [hx] at hc
        have hkm : (k : Int) < (m : Int) := by have := HL.out; have := HKL.out; omega
        have hkmN : k < m := by omega
        have hk12 : (k : Int) < 12 := by have := HN.out; omega
        have HS := Lib.hid (show rawL l first (k + 1) = rawL l first k ++ [x % 101 - 50] by rw [rawL_succ HKL.out, hx])
        have HLEN := Lib.hid (show (rawL l first k).length + 1 ≤ 1000000 by
          unfold rawL
          rw [List.length_append, List.length_map, List.length_take]
          have := HF.out
          omega)
        obtain ⟨r, hr⟩ : ∃ r, x % 101 = r := ⟨_, rfl⟩
        have hrb : 0 ≤ r ∧ r < 101 := by omega
        have HR := Lib.hid hr
        have HLT := Lib.hid hlt
        obtain ⟨hr1, hr2⟩ := hrb
        clear hx hr hlt hk hkN
        go_wp2_with fail
        refine (kit_pick x 101 wr (by omega) (by omega)).mono ?_
        rintro e w2 ⟨rfl, rfl⟩
        rw [show ((101 : Nat) : Int) = 101 from rfl, HR.out]
        go_wp2_with (at_builtin; refine append_int1 (w0 := w) w.heap.size rfl _ _ rfl _ (rawL l first k) (r - 50) (by rfl) (by rfl) hown hbel hbel.size HLEN.out ?_)
        intro v4 w4 ho4 hb4
        rw [← HR.out, ← HS.out] at ho4
        have hk := HK.out
        go_wp2_with fail
        go_roundg (gk - 1)
        case measure => have := HN.out; have := HLT.out; omega
        case rel => exact ⟨k + 1, by have := HN.out; have := HLT.out; omega, by have := HLT.out; omega, by go_num, ho4, hb4⟩
      · have hkNe : k = N := by omega
        subst hkNe
        by_cases hkl : k = l.length
        · have hkm : (m : Int) ≤ (k : Int) := by have := HL.out; omega
          clear hkl hlt
          go_wp2_with fail
          go_meet
          exact ⟨hown, hbel⟩
        · have hkm : (k : Int) < (m : Int) := by have := HL.out; have := HN.out; omega
          have hk12 : (12 : Int) ≤ (k : Int) := by have := HN.out; omega
          clear hkl hlt
          go_wp2_with fail
          go_meet
          exact ⟨hown, hbel⟩
  case rest =>
    obtain ⟨hown, hbel⟩ := hcut
    obtain ⟨L, hL⟩ : ∃ L, rawL l first N = L := ⟨_, rfl⟩
    rw [hL] at hown
    have HLF := Lib.hid hL
    obtain ⟨A5, c5, rfl, hc5, hnums⟩ := hown.form
    have HLL := Lib.hid (show L.length ≤ 16 by
      rw [← hL]
      unfold rawL
      rw [List.length_append, List.length_map, List.length_take]
      have := HF.out
      have := HN.out
      omega)
    have HSM := Lib.hid (show ∀ x ∈ L, -1000 < x ∧ x < 1000 by
      intro x hx
      rw [← hL] at hx
      unfold rawL at hx
      rcases List.mem_append.1 hx with hx | hx
      · exact HFS.out x hx
      · obtain ⟨y, _, rfl⟩ := List.mem_map.1 hx
        omega)
    obtain ⟨t, ht⟩ : ∃ t, topZ (atL L) L.length = t := ⟨_, rfl⟩
    have HT0 := Lib.hid ht
    obtain ⟨n5, hn5⟩ : ∃ n5, L.length = n5 := ⟨_, rfl⟩
    have HN5 := Lib.hid hn5
    have hown' := Lib.hid hown
    rw [hn5] at hc5 ⊢
    have hc5I : (n5 : Int) ≤ (c5 : Int) := by omega
    have hn16 : (n5 : Int) ≤ 16 := by have := HLL.out; omega
    clear hL hn5 ht hown
    go_upto_block 2 with (fail)
    go_cut [5] (fun t5 wx => wc = wx ∧ t5 = .slice A5 t c5)
    case first =>
      go_wp2_with fail
      go_loopg [5] n5 (fun gk t5 wr => gk ≤ n5 ∧ wc = wr ∧ t5 = .slice A5 gk c5 ∧ topZ (atL L) gk = t)
      case atStart => exact ⟨Nat.le_refl _, rfl, rfl, by rw [← HN5.out]; exact HT0.out⟩
      case round =>
        obtain ⟨hk, rfl, rfl, htop⟩ := hrel
        have HT := Lib.hid htop
        clear htop
        by_cases h0 : gk = 0
        · subst h0
          have HE := Lib.hid (show t = 0 by rw [← HT.out]; rfl)
          go_wp2_with fail
          go_meet
          rw [HE.out]
          exact ⟨rfl, rfl⟩
        · obtain ⟨q, rfl⟩ : ∃ q, gk = q + 1 := ⟨gk - 1, by omega⟩
          obtain ⟨ad, rfl, _, hc⟩ := hnums.at_ (k := q) (by rw [HN5.out]; omega)
          obtain ⟨x, hx⟩ : ∃ x, L.getD q 0 = x := ⟨_, rfl⟩
          rw [hx] at hc
          have HX := Lib.hid hx
          have hqI : ((q + 1 : Nat) : Int) - 1 = (q : Int) := by omega
          have hq1 : (0 : Int) < ((q + 1 : Nat) : Int) := by omega
          have hqn : (q : Int) < ((q + 1 : Nat) : Int) := by omega
          have hql : (q : Int) ≤ (c5 : Int) := by omega
          obtain ⟨k, hkk⟩ : ∃ k, q + 1 = k := ⟨_, rfl⟩
          rw [hkk] at hk hqI hq1 hqn ⊢
          have HK := Lib.hid hkk
          have hkI : (k : Int) ≤ (c5 : Int) := by omega
          clear h0 hkk hx
          by_cases hz : x = 0
          · subst hz
            have HT2 := Lib.hid (show topZ (atL L) q = t by rw [← HT.out]; exact (if_pos HX.out).symm)
            go_wp2_with fail
            go_roundg q
            case measure => have := HK.out; omega
            case rel => exact ⟨by omega, rfl, rfl, HT2.out⟩
          · have HE := Lib.hid (show t = k by rw [← HT.out, ← HK.out]; exact if_neg (fun e => hz (by rw [← HX.out]; exact e)))
            have tz : (x == 0) = false := beq_eq_false_iff_ne.2 hz
            clear hz
            go_wp2_with fail
            go_meet
            rw [HE.out]
            exact ⟨rfl, rfl⟩
    case rest =>
      obtain ⟨rfl, rfl⟩ := hcut
      have htl : t ≤ L.length := by rw [← HT0.out]; exact topZ_le _ _
      have hpre := hown'.out.prefix htl
      have HPL := Lib.hid (show t = (L.take t).length by rw [List.length_take]; omega)
      have hnum2 : Nums wc wc.heap.size A5 (L.take t) := by
        obtain ⟨A6, c6, e6, _, h6⟩ := hpre.form
        injection e6 with e61
        subst e61
        exact h6
      have HTR := Lib.hid (show trimI L = L.take t by unfold trimI; rw [HT0.out])
      go_wp2_with fail
      refine (law_of A5 t c5 (L.take t) wc hnum2 HPL.out (by have := HLL.out; omega) (fun k hk => by
        have h1 := HSM.out ((L.take t).getD k 0) (by
          rw [List.getD_eq_getElem?_getD, List.getElem?_eq_getElem hk]
          exact List.mem_of_mem_take (List.getElem_mem _))
        omega)).mono ?_
      rintro e w6 ⟨v6, rfl, ht6, hb6⟩
      obtain ⟨A7, c7, rfl, _⟩ := ht6.poly
      have hl7 : ((L.take t).map rawOf).length = t := by rw [List.length_map]; exact HPL.out.symm
      rw [hl7] at ht6 ⊢
      clear hl7
      go_wp2_with fail
      go_ret
      rw [HLF.out, HTR.out]
      exact ⟨_, rfl, ht6.since hbel.size, hbel.trans (hb6.mono hbel.size)⟩
end Go.Proofs.Ytmnfokapdipcdaa
