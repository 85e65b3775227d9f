import Derived.Test.YtmnfokapdipcdaaTimes
import Derived.Test.YtmnfokapdipcdaaBackP
import Derived.Test.YtmnfokapdipcdaaPlan2
/- Rows of records whose limbs are read; the laws' product of polynomials. -/
namespace Go.Proofs.Ytmnfokapdipcdaa
open Go.RowKit Go.Deep
theorem RawAt.grown {w w1 : World} {base : Nat} {v : Value} {x : Raw} {row : Option Nat} (h : RawAt w base v x) (hg : w.grownBy w1 row) (hr : ∀ R, row = some R → ∃ cs, w.heap[R]? = some (.cells cs 36 (0, 0))) : RawAt w1 base v x := by
  obtain ⟨A, l, c, rfl, hl, hc, hlim, hf⟩ := h
  rcases hf with ⟨rfl, rfl⟩ | ⟨g, cs, rfl, hg1, hg2, hg3⟩
  · have hx : x.2 = [] := List.eq_nil_of_length_eq_zero (by omega)
    refine ⟨none, l, 0, rfl, hl, hc, by rw [hx]; exact Lim.nil _ _ _, .inl ⟨rfl, rfl⟩⟩
  · have hlt := (Array.getElem?_eq_some_iff.1 hg2).1
    have hne : some g ≠ row := by
      intro e
      obtain ⟨cs', h2⟩ := hr g e.symm
      rw [hg2] at h2
      simp at h2
    have hb := hg.block g hlt hne
    refine ⟨_, l, c, rfl, hl, hc, ⟨hlim.small, fun hn => ?_⟩, .inr ⟨g, cs, rfl, hg1, by rw [hb]; exact hg2, hg3⟩⟩
    obtain ⟨ad, e, hadb, hcell⟩ := hlim.cells hn
    injection e with e
    subst e
    refine ⟨_, rfl, Nat.lt_of_lt_of_le hlt hg.size, fun j hj => ?_⟩
    have h1 := hcell j hj
    rw [World.cell?_of_block (w := w) (by rw [block_of_add]; exact hb)]
    exact h1
/-- The value v is nil or the call's own row of records that are read. -/
def PRow (w : World) (base : Nat) (v : Value) (xs : List Raw) : Prop :=
  ∃ l : List (Bool × Value), w.ownsRow base 36 2 v l.length (recs l) ∧ l.length = xs.length ∧ ∀ j, j < xs.length → RawAt w base (.agg #[.bool (l.getD j rec0).1, (l.getD j rec0).2]) (xs.getD j (false, []))
theorem PRow.nil (w : World) (base : Nat) : PRow w base (.slice none 0 0) [] := ⟨[], ⟨by simp [recs], .inl ⟨rfl, rfl⟩⟩, rfl, fun j hj => by simp at hj⟩
theorem own_block_type {w : World} {base size n : Nat} {e : TypeId} {v : Value} {xs : List Value} (h : w.ownsRow base e size v n xs) {R : Nat} (hR : v.ownBlock = some R) : ∃ cs, w.heap[R]? = some (.cells cs e (0, 0)) := by
  rcases h.2 with ⟨rfl, _⟩ | ⟨g, cap, cur, rfl, hg, hh, _⟩
  · simp [Value.ownBlock] at hR
  · simp [Value.ownBlock] at hR; subst hR; exact ⟨cur, hh⟩
theorem PRow.below {w w' : World} {base : Nat} {v : Value} {xs : List Raw} (h : PRow w base v xs) (hb : Below w.heap.size w w') : PRow w' base v xs := by
  obtain ⟨l, h1, h2, h3⟩ := h
  exact ⟨l, h1.kept (grownBy_of_below hb none) (by cases v.ownBlock <;> simp), h2, fun j hj => (h3 j hj).below hb⟩
theorem PRow.poly {w : World} {base : Nat} {v : Value} {xs : List Raw} (h : PRow w base v xs) : ∃ A c, v = .slice A xs.length c ∧ xs.length ≤ c ∧ Poly w w.heap.size A xs := by
  obtain ⟨l, ho, hl, hm⟩ := h
  have ho' := ho
  rcases ho.2 with ⟨rfl, hx⟩ | ⟨g, cap, cur, rfl, hg, hh, hnc, h63, hcap, hpre⟩
  · have e : xs = [] := List.eq_nil_of_length_eq_zero (by omega)
    subst e
    exact ⟨none, 0, rfl, by simp, Poly.nil _ _ _⟩
  · rw [hl] at hnc ⊢
    refine ⟨_, cap, rfl, hnc, ⟨fun _ => ⟨_, rfl, (Array.getElem?_eq_some_iff.1 hh).1, fun j hj => ?_⟩⟩⟩
    have hjl : j < l.length := by omega
    obtain ⟨f0, f1⟩ := recs_get l hjl (p := l.getD j rec0) (getD_self l j rec0)
    have c0 := ho'.cells (g := g) rfl (2 * j) _ f0
    have c1 := ho'.cells (g := g) rfl (2 * j + 1) _ f1
    obtain ⟨A, n, c, hv, hn, hc, hlim, _⟩ := hm j hj
    injection hv with hv
    have hv0 := congrArg (fun a => a[0]?) hv
    have hv1 := congrArg (fun a => a[1]?) hv
    simp at hv0 hv1
    simp only [List.getD_eq_getElem?_getD] at c0 c1 hn hlim ⊢
    rw [add_plain] at c0 c1
    refine ⟨A, n, c, ?_, ?_, hn, hc, hlim⟩
    · rw [add_plain, Nat.mul_comm, c0, hv0]
    · rw [add_plain, Nat.mul_comm]
      show w.cell? ⟨g, 2 * j + 1, none⟩ = _
      rw [c1, hv1]
section
variable {ops : Array Oper} {rest : List Oper} {o : Oper} {a : Act} {Q : Exit → Act → World → Prop}
/-- append(v, record): the goal's world is 'W.alloc' of the variadic's box. -/
theorem append_raw {w0 W : World} (base : Nat) (hgd : o.guard = none) (s x : Operand)
    (ho : o.op = .call { callee := .builtin .append, args := #[s, x], argTypes := #[22, 22] })
    (v : Value) (xs : List Raw) (b : Bool) (A : Option Addr) (n c : Nat) (y : Raw) (hs : a.eval s = v) (hx : a.eval x = .slice (some ⟨W.heap.size, 0, none⟩) 1 1)
    (HR : PRow W base v xs) (hu : RawAt W base (.agg #[.bool b, .slice A n c]) y) (hbt : base ≤ W.heap.size) (HB : Below base w0 W) (hlen : xs.length ≤ 1000000)
    (h : ∀ v1 w1, PRow w1 base v1 (xs ++ [y]) → Below base w0 w1 → W.grownBy w1 v.ownBlock → wpList Try.prog ops Q rest (a.put o.dst v1) w1) :
    wpList Try.prog ops Q (o :: rest) a (W.alloc (.cells #[.bool b, .slice A n c] 36)) := by
  obtain ⟨i0, hi, hz0, hz1, hz2⟩ := info_parts info_rec
  obtain ⟨l, hown, hll, hm⟩ := HR
  have hown' : (W.alloc (.cells #[.bool b, .slice A n c] 36)).ownsRow base 36 2 v l.length (recs l) := hown.alloc _
  refine wpList_append_own_at _ hgd s x 22 ho base 36 i0 _ 2 32 Try.underlying22 hi hz0 hz1 hz2 rfl (by omega) v l.length (recs l) hs hown' ⟨W.heap.size, 0, none⟩ 1 1 [.bool b, .slice A n c] hx (by simp)
    (fun j y hy => ?_) (fun y hy => ?_) (by simp only [maxLen]; omega) (by omega) (by simp; omega) ?_
  · rw [add_plain, cell_of_row _ _ _ _ _ (0, 0) (heap_alloc_new W _), ← hy]
    simp
  · rcases List.mem_cons.1 hy with rfl | hy
    · rfl
    · rw [List.mem_singleton.1 hy]; rfl
  · intro v1 w1 hown1 hg _ _
    have hg' : W.grownBy w1 v.ownBlock := grownBy_trans (grownBy_of_below ((Below.refl _ W).alloc (Nat.le_refl _) _) _) hg
    have hty : ∀ R, v.ownBlock = some R → ∃ cs, W.heap[R]? = some (.cells cs 36 (0, 0)) := fun R hR => own_block_type hown hR
    refine h v1 w1 ⟨l ++ [(b, .slice A n c)], ?_, by simp [hll], fun j hj => ?_⟩ (HB.grown hg' hbt fun k hk => (hown.lt k hk).1) hg'
    · rw [List.length_append, recs_append]; simpa [recs] using hown1
    · by_cases hjx : j < xs.length
      · have e0 : (l ++ [(b, Value.slice A n c)]).getD j rec0 = l.getD j rec0 := by simp [List.getElem?_append_left, show j < l.length by omega]
        have e1 : (xs ++ [y]).getD j (false, []) = xs.getD j (false, []) := by simp [List.getElem?_append_left, hjx]
        rw [e0, e1]
        exact (hm j hjx).grown hg' hty
      · obtain rfl : j = xs.length := by simp at hj; omega
        have e0 : (l ++ [(b, Value.slice A n c)]).getD xs.length rec0 = (b, .slice A n c) := by rw [← hll]; simp
        have e1 : (xs ++ [y]).getD xs.length (false, []) = y := by simp
        rw [e0, e1]
        exact hu.grown hg' hty
end
theorem poly_int {w : World} {B k : Nat} {A : Option Addr} {l : List Int} (h : Poly w B A (l.map rawOf)) (hB : B ≤ w.heap.size) (hk : k < l.length) :
    ∃ ad s Am lm cm, A = some ad ∧ w.cell? (ad.add (k * 2)) = some (.bool s) ∧ w.cell? ⟨(ad.add (k * 2)).block, (ad.add (k * 2)).off + 1, none⟩ = some (.slice Am lm cm) ∧ Hid (IntV w (.agg #[.bool s, .slice Am lm cm]) (atL l k)) := by
  obtain ⟨ad, Am, lm, cm, rfl, _, c0, c1, hl, hc, hlim⟩ := h.at_ (k := k) (by simpa using hk)
  have e : (l.map rawOf).getD k (false, []) = rawOf (atL l k) := by simp [atL, hk]
  rw [e] at c0 hl hlim
  exact ⟨ad, _, Am, lm, cm, rfl, c0, c1, Lib.hid ⟨Am, lm, cm, rfl, hl, hc, hlim.more hB⟩⟩
theorem mild_lc {x : Nat} (h : x < W64 ^ 9) : lc x ≤ 9 := lc_le.2 h
theorem conv_lc {l m : List Int} (hl : Mild l) (hm : Mild m) {i j : Nat} (hi : i < 20) (hj : j ≤ 20) : lc (convS (atL l) (atL m) j i).natAbs ≤ 19 := by
  rw [lc_le]
  have h1 := convS_small (a := atL l) (b := atL m) (A := W64 ^ 9) (B := W64 ^ 9) (n := 20) (fun k _ => Nat.le_of_lt (hl k)) (fun k _ => Nat.le_of_lt (hm k)) hi j hj
  rw [← Nat.pow_add] at h1
  have h2 : j * W64 ^ (9 + 9) ≤ 20 * W64 ^ 18 := Nat.mul_le_mul_right _ hj
  have h3 : W64 ^ 19 = W64 ^ 18 * W64 := Nat.pow_succ ..
  have h4 : 0 < W64 ^ 18 := Nat.pow_pos W64_pos
  have h5 : 21 * W64 ^ 18 ≤ W64 * W64 ^ 18 := Nat.mul_le_mul_right _ (by rw [W64_eq]; omega)
  rw [h3, Nat.mul_comm]
  omega
theorem box_again (w : World) : ∃ W0 r, ((w.alloc (.cells #[.bool false, .slice none 0 0] 36)).setCell ⟨w.heap.size, 0, none⟩ (.bool false)).setCell ⟨w.heap.size, 1, none⟩ (.slice none 0 0) = W0 ∧ w.heap.size = r ∧ Box2 W0 r (.bool false) (.slice none 0 0) ∧ Below r w W0 ∧ W0.heap.size = r + 1 := by
  have hbx : Box2 (w.alloc (.cells #[.bool false, .slice none 0 0] 36)) w.heap.size (.bool false) (.slice none 0 0) := heap_alloc_new w _
  exact ⟨_, _, rfl, rfl, hbx.store, store2_below ((Below.refl _ _).alloc (Nat.le_refl _) _) (Nat.le_refl _), by simp⟩
/-- In the row's loop: the sum's box. -/
def SumAt (w0 w : World) (S : Nat) (z : Int) : Prop := ∃ b A l c, Box2 w S (.bool b) (.slice A l c) ∧ Hid (RawAt w (S + 1) (.agg #[.bool b, .slice A l c]) (rawOf z)) ∧ Below S w0 w
set_option maxHeartbeats 4000000 in
set_option maxRecDepth 100000 in
theorem law_product (Ap Aq : Option Addr) (lp cp lq cq n : Nat) (l m : List Int) (w : World) (hp : Poly w w.heap.size Ap (l.map rawOf)) (hq : Poly w w.heap.size Aq (m.map rawOf)) (hlp : lp = l.length) (hlq : lq = m.length) (hn : n ≤ 20) (hM : Mild l) (hN : Mild m) (hl4 : lp ≤ 4096) (hm4 : lq ≤ 4096) :
    Calls Try.prog 47 #[.slice Ap lp cp, .slice Aq lq cq, .int .i64 (n : Int)] w fun e w' => ∃ A c, e = .returned (.slice A ((toldL (mulZ (atL l) (atL m)) n).map rawOf).length c) ∧ ((toldL (mulZ (atL l) (atL m)) n).map rawOf).length ≤ c ∧ Poly w' w'.heap.size A ((toldL (mulZ (atL l) (atL m)) n).map rawOf) ∧ Below w.heap.size w w' := by
  have HLP := Lib.hid hlp
  have HLQ := Lib.hid hlq
  clear hlp hlq
  go_enter Try.func47, Try.ntmps47
  go_wp2_with fail
  go_loopg [7, 8] n (fun gk t7 t8 wr => ∃ (i : Nat), i + gk = n ∧ t8 = .int .i64 (i : Int) ∧ PRow wr w.heap.size t7 ((List.range i).map (fun k => rawOf (mulZ (atL l) (atL m) k))) ∧ Below w.heap.size w wr)
  case atStart => exact ⟨0, by omega, rfl, PRow.nil _ _, Below.refl _ _⟩
  case round =>
    obtain ⟨i, hi, rfl, hrow, hbel⟩ := hrel
    by_cases hlt : i < n
    · have hiI : (i : Int) < (n : Int) := by omega
      have HROW := Lib.hid hrow
      have HBEL := Lib.hid hbel
      have hszr := hbel.size
      have hpr := hp.below hbel
      have hqr := hq.below hbel
      have HPR := Lib.hid hpr
      have HQR := Lib.hid hqr
      clear hrow hbel hp hq hpr hqr
      have hbx : Box2 (wr.alloc (.cells #[.bool false, .slice none 0 0] 36)) wr.heap.size (.bool false) (.slice none 0 0) := heap_alloc_new wr _
      have x0 := hbx.cell0
      have x1 := hbx.cell1
      have xf := hbx.free
      go_wp2_with fail
      obtain ⟨W0, S, hW, hS, bs, hbs, hszs⟩ := box_new wr (.bool false) (.slice none 0 0)
      have HS := Lib.hid hS
      rw [hW, hS]
      clear hW hS hbx x0 x1 xf
      obtain ⟨wo, hwo⟩ : ∃ wo : World, wo = wr := ⟨_, rfl⟩
      subst hwo
      go_loopw [10] (fun t10 wi => ∃ (j : Nat), j ≤ i + 1 ∧ t10 = .int .i64 (j : Int) ∧ SumAt wo wi S (convS (atL l) (atL m) j i)) (fun t10 _ => i + 1 - (intOf t10).toNat)
      case atStart => exact ⟨0, by omega, rfl, false, none, 0, 0, bs, Lib.hid (by rw [show convS (atL l) (atL m) 0 i = 0 from rfl, rawOf_zero]; exact RawAt.zero _ _), hbs⟩
      case round =>
        clear bs hbs hszs
        obtain ⟨j, hj, rfl, hsum⟩ := hrel
        obtain ⟨b, A, ls, cs, bs, HRS, hbs⟩ := hsum
        have hS := HS.out
        by_cases hlj : j ≤ i
        · have hjI : (j : Int) ≤ (i : Int) := by omega
          have HST := Lib.hid (show convS (atL l) (atL m) (j + 1) i = convS (atL l) (atL m) j i + atL l j * atL m (i - j) by rw [convS_succ, if_pos hlj])
          by_cases hin : j < lp ∧ i - j < lq
          · obtain ⟨hj1, hj2⟩ := hin
            have hbw : Below w.heap.size w wr := HBEL.out.trans (hbs.mono (by omega))
            have hbS : Below wo.heap.size wo wr := by rw [hS]; exact hbs
            obtain ⟨ad, s1, Am1, lm1, cm1, rfl, p0, p1, HV1⟩ := poly_int (((HPR.out.more hszr).below hbS).more hbS.size) (Nat.le_refl _) (k := j) (by have := HLP.out; omega)
            obtain ⟨ad2, s2, Am2, lm2, cm2, rfl, q0, q1, HV2⟩ := poly_int (((HQR.out.more hszr).below hbS).more hbS.size) (Nat.le_refl _) (k := i - j) (by have := HLQ.out; omega)
            obtain ⟨X, hX⟩ : ∃ X, atL l j = X := ⟨_, rfl⟩
            obtain ⟨Y, hY⟩ : ∃ Y, atL m (i - j) = Y := ⟨_, rfl⟩
            obtain ⟨Z, hZ⟩ : ∃ Z, convS (atL l) (atL m) j i = Z := ⟨_, rfl⟩
            have HLX := Lib.hid (mild_lc (hX ▸ hM j))
            have HLY := Lib.hid (mild_lc (hY ▸ hN (i - j)))
            have HLZ := Lib.hid (hZ ▸ conv_lc hM hN (i := i) (j := j) (by omega) (by omega))
            have HLS := Lib.hid (conv_lc hM hN (i := i) (j := j + 1) (by omega) (by omega))
            rw [hX] at HV1 HST
            rw [hY] at HV2 HST
            rw [hZ] at HRS HST
            rw [HST.out] at HLS
            have HLXY := Lib.hid (show lc (X * Y).natAbs ≤ 4096 by
              rw [Int.natAbs_mul]
              have h1 := lc_mul X.natAbs Y.natAbs
              have := HLX.out
              have := HLY.out
              omega)
            obtain ⟨d, hd⟩ : ∃ d, i - j = d := ⟨_, rfl⟩
            have hdI : (i : Int) - (j : Int) = (d : Int) := by omega
            rw [hd] at q0 q1 hj2
            have hj1I : (j : Int) < (lp : Int) := by omega
            have hj2I : (d : Int) < (lq : Int) := by omega
            have r0 := later_cell p0
            have r1 := later_cell p1
            have r2 := later_cell q0
            have r3 := later_cell q1
            have HBS := Lib.hid hbs
            clear hX hY hZ hd hbs hbS hbw
            go_wp2_with fail
            refine wp_region_forks (fun w' => ∃ δ : Later Nix wr, w' = δ.world) (.read 0 (.read 1 (.read 2 (.read 3 (.read 4 (.read 5 (.read 6 (.read 7 (.read 8 (.read 9 (.both 10 (.read 11 (.read 12 (.read 13 (.loud 14 (.loud 15 .done))))) 14 (.loud 10 (.read 11 (.read 12 (.read 13 (.loud 15 .done)))))))))))))))) 16 (.read _ (.read _ (.read _ (.read _ (.read _ (.read _ (.read _ (.read _ (.read _ (.read _ (.both _ (.read _ (.read _ (.read _ (.loud _ (.loud _ .done))))) _ (.loud _ (.read _ (.read _ (.read _ (.loud _ .done)))))))))))))))) [_] (by kernel_rfl) (by kernel_rfl) rfl rfl ?_ ?_
            · exact ⟨⟨_, nix_drawn wr⟩, rfl⟩
            repeat (refine wpTree_read ?_; go_big_quiet_step (fail); refine wpQuiet_nil ?_)
            refine wpTree_both rfl rfl ?_ ?_
            · intro K hK
              go_big_op
              have hd1 : Below wr.heap.size wr (wr.drewN 1) := below_drewN (Below.refl _ _) 1
              refine (times_Mul _ _ X Y (wr.drewN 1) (HV1.out.below hd1) (HV2.out.below hd1) (by have := HLX.out; omega) (by have := HLY.out; omega) (by have := HLX.out; omega)).mono ?_
              rintro e w4 ⟨v4, rfl, hv4, hb4⟩
              obtain ⟨EE, hEE⟩ : ∃ EE, longE (X * Y) = EE := ⟨_, rfl⟩
              rw [hEE]
              clear hEE
              rw [longR_ok HLXY.out] at hv4
              obtain ⟨bx, Ax, lx, cx, rfl, HV4⟩ := hv4.open
              have hb04 : Below wr.heap.size wr w4 := hd1.trans hb4
              have he4 : Ext Nix wr w4 := (Ext.of_below hb04).mono (fun _ _ h => h.elim) (fun _ h => h.elim)
              have h5 : Below w4.heap.size w4 (w4.alloc (.cells #[.bool false, .slice none 0 0] 36)) := (Below.refl _ _).alloc (Nat.le_refl _) _
              have b5 : Box2 (w4.alloc (.cells #[.bool false, .slice none 0 0] 36)) w4.heap.size (.bool false) (.slice none 0 0) := heap_alloc_new w4 _
              have h6 : Below w4.heap.size w4 (w4.alloc (.cells #[.bool bx, .slice Ax lx cx] 36)) := (Below.refl _ _).alloc (Nat.le_refl _) _
              have b6 : Box2 (w4.alloc (.cells #[.bool bx, .slice Ax lx cx] 36)) w4.heap.size (.bool bx) (.slice Ax lx cx) := heap_alloc_new w4 _
              have HXI := Lib.hid ((HV4.out.below h6).int)
              refine hK _ _ ⟨⟨w4, he4⟩, rfl⟩ ?_
              clear hK K hv4 hb4
              repeat (refine wpTree_read ?_; go_big_quiet_step (fail); refine wpQuiet_nil ?_)
              refine wpTree_loud rfl ?_
              intro K hK
              go_big_op
              refine hK _ _ ⟨⟨_, he4.later (Ext.of_below h5)⟩, rfl⟩ ?_
              clear hK K
              refine wpTree_loud rfl ?_
              intro K hK
              have d0 := b5.cell0
              have d1 := b5.cell1
              have fr := b5.free
              go_big_op
              refine hK _ _ ⟨⟨_, he4.later (Ext.of_below h6)⟩, rfl⟩ ?_
              clear hK K d0 d1 fr
              have hb06 := hb04.trans (h6.mono hb04.size)
              have hsz4 := hb04.size
              generalize w4.alloc (.cells #[.bool bx, .slice Ax lx cx] 36) = W6 at h6 b6 HXI hb06 ⊢
              generalize w4.heap.size = G at b6 hsz4 ⊢
              clear h5 b5 h6 he4 hb04 HV4
              refine wpTree_done ?_
              have hS0 := bs.lt
              have bs6 := bs.below hb06 bs.lt
              have HB6 := Lib.hid (HBS.out.trans (hb06.mono (by omega)))
              have HSI := Lib.hid (HRS.out.below hb06).int
              have s0 := bs6.cell0
              have s1' := bs6.cell1
              have x0 := b6.cell0
              have x1 := b6.cell1
              go_wp2_with fail
              refine (limb_Add _ _ Z (X * Y) W6 HSI.out HXI.out (by have := HLZ.out; omega) HLXY.out).mono ?_
              rintro e w7 ⟨v7, rfl, hv7, hb7⟩
              obtain ⟨EF, hEF⟩ : ∃ EF, longE (Z + X * Y) = EF := ⟨_, rfl⟩
              rw [hEF]
              clear hEF
              rw [longR_ok (by have := HLS.out; omega)] at hv7
              obtain ⟨b7, A7, l7, c7, rfl, HV7⟩ := hv7.open
              have bs7 := bs6.below hb7 bs6.lt
              have hS6 := bs6.lt
              have HB7 := Lib.hid (HB6.out.trans (hb7.mono (by omega)))
              have HR7 := Lib.hid ((HV7.out.ext (ext_store2 (a := .bool b7) (b := .slice A7 l7 c7) bs7.nums) (fun i hi => by subst hi; exact hS6)).since (base' := S + 1) hS6)
              have e0 := bs7.cell0
              have e1 := bs7.cell1
              have ef := bs7.free
              clear hv7 hb7 s0 s1' x0 x1
              go_wp2_with fail
              exact ⟨⟨j + 1, by omega, by go_num, b7, A7, l7, c7, bs7.store, by rw [HST.out]; exact HR7, store2_below HB7.out (Nat.le_refl _)⟩, by simp [intOf]; omega⟩
            · intro K hK
              go_big_op
              have hd1 : Below wr.heap.size wr (wr.drewN 1) := below_drewN (Below.refl _ _) 1
              have h4 : Below wr.heap.size wr ((wr.drewN 1).alloc (.cells #[.bool false, .slice none 0 0] 36)) := hd1.trans (((Below.refl (wr.drewN 1).heap.size (wr.drewN 1)).alloc (Nat.le_refl _) _ : Below (wr.drewN 1).heap.size _ _))
              have he4 : Ext Nix wr ((wr.drewN 1).alloc (.cells #[.bool false, .slice none 0 0] 36)) := (Ext.of_below h4).mono (fun _ _ h => h.elim) (fun _ h => h.elim)
              have b4 : Box2 ((wr.drewN 1).alloc (.cells #[.bool false, .slice none 0 0] 36)) wr.heap.size (.bool false) (.slice none 0 0) := heap_alloc_new (wr.drewN 1) _
              have hs4 : ((wr.drewN 1).alloc (.cells #[.bool false, .slice none 0 0] 36)).heap.size = wr.heap.size + 1 := by simp
              refine hK _ _ ⟨⟨_, he4⟩, rfl⟩ ?_
              clear hK K
              refine wpTree_loud rfl ?_
              intro K hK
              go_big_op
              refine (times_Mul _ _ X Y _ (HV1.out.below h4) (HV2.out.below h4) (by have := HLX.out; omega) (by have := HLY.out; omega) (by have := HLX.out; omega)).mono ?_
              rintro e w5 ⟨v5, rfl, hv5, hb5⟩
              obtain ⟨EE, hEE⟩ : ∃ EE, longE (X * Y) = EE := ⟨_, rfl⟩
              rw [hEE]
              clear hEE
              rw [longR_ok HLXY.out] at hv5
              obtain ⟨bx, Ax, lx, cx, rfl, HV5⟩ := hv5.open
              have he5 : Ext Nix wr w5 := he4.later (Ext.of_below hb5)
              have b5 := b4.below hb5 b4.lt
              refine hK _ _ ⟨⟨w5, he5⟩, rfl⟩ ?_
              clear hK K
              repeat (refine wpTree_read ?_; go_big_quiet_step (fail); refine wpQuiet_nil ?_)
              refine wpTree_loud rfl ?_
              intro K hK
              have d0 := b5.cell0
              have d1 := b5.cell1
              have fr := b5.free
              have hb05 : Below wr.heap.size wr w5 := h4.trans (hb5.mono h4.size)
              have h6 : Below wr.heap.size wr ((w5.setCell ⟨wr.heap.size, 0, none⟩ (.bool bx)).setCell ⟨wr.heap.size, 1, none⟩ (.slice Ax lx cx)) := store2_below hb05 (Nat.le_refl _)
              have b6 := b5.store (a := .bool bx) (b := .slice Ax lx cx)
              have HXI := Lib.hid (HV5.out.ext (ext_store2 (a := .bool bx) (b := .slice Ax lx cx) b5.nums) (fun i hi => by subst hi; omega)).int
              clear hv5 hb5
              go_big_op
              refine hK _ _ ⟨⟨_, (Ext.of_below h6).mono (fun _ _ h => h.elim) (fun _ h => h.elim)⟩, rfl⟩ ?_
              clear hK K d0 d1 fr
              have hb06 := h6
              have hsz4 : wr.heap.size ≤ wr.heap.size := Nat.le_refl _
              generalize (w5.setCell ⟨wr.heap.size, 0, none⟩ (.bool bx)).setCell ⟨wr.heap.size, 1, none⟩ (.slice Ax lx cx) = W6 at h6 b6 HXI hb06 ⊢
              obtain ⟨G, hG⟩ : ∃ G, wr.heap.size = G := ⟨_, rfl⟩
              rw [hG] at b6 ⊢
              clear h6 he5 b5 b4 h4 he4 hb05 hs4 HV5
              refine wpTree_done ?_
              have hS0 := bs.lt
              have bs6 := bs.below hb06 bs.lt
              have HB6 := Lib.hid (HBS.out.trans (hb06.mono (by omega)))
              have HSI := Lib.hid (HRS.out.below hb06).int
              have s0 := bs6.cell0
              have s1' := bs6.cell1
              have x0 := b6.cell0
              have x1 := b6.cell1
              go_wp2_with fail
              refine (limb_Add _ _ Z (X * Y) W6 HSI.out HXI.out (by have := HLZ.out; omega) HLXY.out).mono ?_
              rintro e w7 ⟨v7, rfl, hv7, hb7⟩
              obtain ⟨EF, hEF⟩ : ∃ EF, longE (Z + X * Y) = EF := ⟨_, rfl⟩
              rw [hEF]
              clear hEF
              rw [longR_ok (by have := HLS.out; omega)] at hv7
              obtain ⟨b7, A7, l7, c7, rfl, HV7⟩ := hv7.open
              have bs7 := bs6.below hb7 bs6.lt
              have hS6 := bs6.lt
              have HB7 := Lib.hid (HB6.out.trans (hb7.mono (by omega)))
              have HR7 := Lib.hid ((HV7.out.ext (ext_store2 (a := .bool b7) (b := .slice A7 l7 c7) bs7.nums) (fun i hi => by subst hi; exact hS6)).since (base' := S + 1) hS6)
              have e0 := bs7.cell0
              have e1 := bs7.cell1
              have ef := bs7.free
              clear hv7 hb7 s0 s1' x0 x1
              go_wp2_with fail
              exact ⟨⟨j + 1, by omega, by go_num, b7, A7, l7, c7, bs7.store, by rw [HST.out]; exact HR7, store2_below HB7.out (Nat.le_refl _)⟩, by simp [intOf]; omega⟩
          · have hz : atL l j * atL m (i - j) = 0 := by
              by_cases h1 : j < lp
              · rw [atL_past (l := m) (by have := HLQ.out; omega), Int.mul_zero]
              · rw [atL_past (l := l) (by have := HLP.out; omega), Int.zero_mul]
            have HST2 := Lib.hid (show convS (atL l) (atL m) (j + 1) i = convS (atL l) (atL m) j i by rw [HST.out, hz]; omega)
            have hsum2 : SumAt wo wr S (convS (atL l) (atL m) (j + 1) i) := by rw [HST2.out]; exact ⟨b, A, ls, cs, bs, HRS, hbs⟩
            clear hz bs hbs HRS
            by_cases h1 : j < lp
            · have hj1I : (j : Int) < (lp : Int) := by omega
              have hj2I : ¬ ((i : Int) - (j : Int) < (lq : Int)) := by omega
              clear hin
              go_wp2_with fail
              exact ⟨⟨j + 1, by omega, by go_num, hsum2⟩, by simp [intOf]; omega⟩
            · have hj1I : ¬ ((j : Int) < (lp : Int)) := by omega
              clear hin
              go_wp2_with fail
              exact ⟨⟨j + 1, by omega, by go_num, hsum2⟩, by simp [intOf]; omega⟩
        · obtain rfl : j = i + 1 := by omega
          have hbw : Below w.heap.size w wr := HBEL.out.trans (hbs.mono (by omega))
          have hbS : Below wo.heap.size wo wr := by rw [hS]; exact hbs
          have hjI : ¬ (((i + 1 : Nat) : Int) ≤ (i : Int)) := by omega
          have HR := Lib.hid (HROW.out.below hbS)
          have HRS2 := Lib.hid (HRS.out.since (base' := w.heap.size) (by omega))
          have HBW := Lib.hid hbw
          have HMU := Lib.hid (show (List.range (i + 1)).map (fun k => rawOf (mulZ (atL l) (atL m) k)) = (List.range i).map (fun k => rawOf (mulZ (atL l) (atL m) k)) ++ [rawOf (convS (atL l) (atL m) (i + 1) i)] by
            rw [List.range_succ, List.map_append]; rfl)
          have s0 := bs.cell0
          have s1 := bs.cell1
          have hI2 : (i : Int) + 1 ≤ (n : Int) := by omega
          clear hbw hbS hbs
          go_wp2_with (at_builtin; refine append_raw (w0 := w) w.heap.size rfl _ _ rfl _ _ b A ls cs (rawOf (convS (atL l) (atL m) (i + 1) i)) (by rfl) (by rfl) HR.out HRS2.out HBW.out.size HBW.out (by simp; omega) ?_)
          intro v1 w1 hr1 hb1 _
          rw [← HMU.out] at hr1
          go_wp2_with fail
          go_roundg (gk - 1)
          case measure => omega
          case rel => exact ⟨i + 1, by omega, by go_num, hr1, hb1⟩
    · obtain rfl : i = n := by omega
      have hiI : ¬ ((i : Int) < (i : Int)) := by omega
      have HR := Lib.hid hrow
      have HBEL := Lib.hid hbel
      obtain ⟨A, c, hv, hc, hpo⟩ := hrow.poly
      have hlen : ((List.range i).map (fun k => rawOf (mulZ (atL l) (atL m) k))).length = i := by simp
      rw [hlen] at hv hc
      subst hv
      have HC := Lib.hid hc
      have HPO := Lib.hid hpo
      clear hrow hbel hc hpo hlen hp hq
      go_wp2_with fail
      refine (law_cut A i c i _ wr HPO.out (by simp) HC.out (by omega)).mono ?_
      rintro e w1 ⟨rfl, rfl⟩
      have HCU := Lib.hid (show (toldL (mulZ (atL l) (atL m)) i).map rawOf = cutR ((List.range i).map (fun k => rawOf (mulZ (atL l) (atL m) k))) i by
        have h1 := cut_told (z := mulZ (atL l) (atL m)) (n := i) (l := (List.range i).map (mulZ (atL l) (atL m))) (fun k hk => by simp [atL, hk])
        rw [h1, List.map_map]
        rfl)
      rw [← HCU.out]
      go_wp2_with fail
      go_ret
      have h2 := HPO.out.take (topR ((List.range i).map (fun k => rawOf (mulZ (atL l) (atL m) k))) (min ((List.range i).map (fun k => rawOf (mulZ (atL l) (atL m) k))).length i))
      have h3 : ((List.range i).map (fun k => rawOf (mulZ (atL l) (atL m) k))).take (topR ((List.range i).map (fun k => rawOf (mulZ (atL l) (atL m) k))) (min ((List.range i).map (fun k => rawOf (mulZ (atL l) (atL m) k))).length i)) = (toldL (mulZ (atL l) (atL m)) i).map rawOf := HCU.out.symm
      rw [h3] at h2
      refine ⟨A, c, by rw [List.length_map]; rfl, ?_, h2, HBEL.out⟩
      rw [List.length_map, toldL_len]
      exact Nat.le_trans (topZ_le _ _) HC.out
end Go.Proofs.Ytmnfokapdipcdaa
