import Derived.Test.YtmnfokapdipcdaaLaw18d
import Derived.Test.YtmnfokapdipcdaaLaw18c
import Derived.Test.YtmnfokapdipcdaaStay
import Derived.Test.YtmnfokapdipcdaaPlan2
import Derived.Test.YtmnfokapdipcdaaRootN
/- The law of layer 18: RootNumbers. -/
namespace Go.Proofs.Ytmnfokapdipcdaa
open Go.RowKit Go.Deep
/-- The loop that fills a number with ones. -/
structure Filling (w wr : World) (gs gf : Nat) (i : Nat) : Prop where
  row : ∃ os, Row wr gs os ∧ os.length = 4096 ∧ os.take i = List.replicate i (W64 - 1)
  since : Since w wr
  box : Box2 wr gf (.bool false) (.slice (some ⟨gs, 0, none⟩) 4096 4096)
theorem Filling.step {w wr : World} {gs gf i : Nat} (h : Filling w wr gs gf i) (hi : i < 4096) (hgs : w.heap.size ≤ gs) (hne : gf ≠ gs) : Filling w (wr.setCell ⟨gs, i, none⟩ (.int .u64 18446744073709551615)) gs gf (i + 1) := by
  obtain ⟨os, h1, h2, h3⟩ := h.row
  have hW := W64_eq
  have hc : (18446744073709551615 : Int) = ((W64 - 1 : Nat) : Int) := by omega
  refine ⟨⟨os.set i (W64 - 1), by rw [hc]; exact h1.set (by omega) (by omega), by rw [List.length_set, h2], ?_⟩, h.since.setCell (p := ⟨gs, i, none⟩) hgs _, ?_⟩
  · rw [take_set_succ os i _ (by omega), h3, List.replicate_succ']
  · have hb := h.box
    unfold Box2 at hb ⊢
    rw [Below.heap_setCell _ _ _ gf (by simpa using hne)]
    exact hb
@[irreducible] def lim4 : Nat := 4096
theorem lim4_eq : lim4 = 4096 := by unfold lim4; rfl
def bigA : Nat := W64 ^ lim4 - 1
theorem Filling.done {w wr : World} {gs gf : Nat} (h : Filling w wr gs gf 4096) : IntV wr (.agg #[.bool false, .slice (some ⟨gs, 0, none⟩) 4096 4096]) ((bigA : Nat) : Int) ∧ lc bigA = 4096 := by
  obtain ⟨os, h1, h2, h3⟩ := h.row
  rw [List.take_of_length_le (by omega)] at h3
  have hl : limbs bigA = List.replicate 4096 (W64 - 1) := by unfold bigA; rw [limbs_full, lim4_eq]
  have hlc : lc bigA = 4096 := by unfold lc; rw [hl, List.length_replicate]
  subst h3
  refine ⟨⟨some ⟨gs, 0, none⟩, 4096, 4096, ?_, ?_, Nat.le_refl _, ?_⟩, hlc⟩
  · rw [decide_eq_false (by omega)]
  · rw [Int.natAbs_natCast]; exact hlc.symm
  · rw [Int.natAbs_natCast, hl]
    exact h1.lim h1.lt
@[irreducible] def half4 : Nat := 2048
theorem half4_eq : half4 = 2048 := by unfold half4; rfl
def rootA : Nat := W64 ^ half4 - 1
def restA : Nat := 2 * W64 ^ half4 - 2
theorem bigA_eq : bigA = W64 ^ half4 * W64 ^ half4 - 1 := by
  unfold bigA
  rw [← Nat.pow_add, show lim4 = half4 + half4 by rw [lim4_eq, half4_eq]]
theorem rootA_eq : isqrt bigA = rootA := by rw [bigA_eq, isqrt_full (Nat.pow_pos W64_pos)]; rfl
theorem restA_eq : bigA - isqrt bigA * isqrt bigA = restA := by
  rw [rootA_eq, bigA_eq]
  exact rest_full (Nat.pow_pos W64_pos)
theorem iroot_big0 : iroot 4096 bigA = W64 - 1 := by
  have h := root_full (n := lim4) (by rw [lim4_eq]; omega)
  rw [show iroot 4096 bigA = iroot lim4 bigA by rw [lim4_eq]]
  exact h
theorem iroot_big2 {n : Nat} (h : n + 1 = 64 * lim4) : iroot n bigA = 2 := by
  unfold bigA
  rw [W64_pow, ← h]
  exact root_two (by rw [lim4_eq] at h; omega)
theorem iroot_big1 {n : Nat} (h : n = 64 * lim4) : iroot n bigA = 1 := by
  unfold bigA
  rw [W64_pow, ← h]
  exact root_one_of (by rw [lim4_eq] at h; omega)
theorem rootZ_big (n : Nat) : rootZ n ((bigA : Nat) : Int) = ((iroot n bigA : Nat) : Int) := by rw [rootZ_pos (by omega), Int.natAbs_natCast]
theorem raw_top : rawOf (((W64 - 1 : Nat)) : Int) = (false, [18446744073709551615]) := by
  have hW := W64_eq
  rw [show ((W64 - 1 : Nat) : Int) = 18446744073709551615 by omega]
  exact raw_small (by decide) (by rw [W64_eq]; decide)
theorem raw_two : rawOf ((2 : Nat) : Int) = (false, [2]) := raw_small (by decide) (by rw [W64_eq]; decide)
theorem raw_one' : rawOf ((1 : Nat) : Int) = (false, [1]) := raw_small (by decide) (by rw [W64_eq]; decide)
theorem Nums.stay {w w' : World} {A : Option Addr} {l : List Int} (h : Nums w w.heap.size A l) (hb : Below w.heap.size w w') : Nums w' w'.heap.size A l := (h.below hb).more hb.size
theorem Poly.stay {w w' : World} {A : Option Addr} {xs : List Raw} (h : Poly w w.heap.size A xs) (hb : Below w.heap.size w w') : Poly w' w'.heap.size A xs := (h.below hb).more hb.size
theorem nums_lit (w : World) (cs : Array Value) (ty : TypeId) (l : List Int) (hcs : cs.toList = l.map (fun x => Value.int .i64 x)) : ∃ W g, w.alloc (.cells cs ty) = W ∧ w.heap.size = g ∧ Nums W W.heap.size (some ⟨g, 0, none⟩) l ∧ Below w.heap.size w W := by
  refine ⟨_, _, rfl, rfl, ⟨fun _ => ⟨_, rfl, by simp, fun j hj => ?_⟩⟩, (Below.refl _ _).alloc (Nat.le_refl _) _⟩
  rw [add_plain, cell_of_row _ _ _ _ _ (0, 0) (heap_alloc_new w _), ← Array.getElem?_toList, hcs]
  simp [hj]
/-- Records, one by one. -/
inductive AllRaw (w : World) : List (Bool × Value) → List Raw → Prop where
  | nil : AllRaw w [] []
  | cons {p : Bool × Value} {x : Raw} {l : List (Bool × Value)} {xs : List Raw} (h : RawV w (.agg #[.bool p.1, p.2]) x) (t : AllRaw w l xs) : AllRaw w (p :: l) (x :: xs)
theorem AllRaw.len {w : World} {l : List (Bool × Value)} {xs : List Raw} (h : AllRaw w l xs) : l.length = xs.length := by
  induction h with
  | nil => rfl
  | cons _ _ ih => simp [ih]
theorem AllRaw.get {w : World} {l : List (Bool × Value)} {xs : List Raw} (h : AllRaw w l xs) : ∀ k, k < xs.length → RawV w (.agg #[.bool (l.getD k rec0).1, (l.getD k rec0).2]) (xs.getD k (false, [])) := by
  induction h with
  | nil => intro k hk; exact absurd hk (by simp)
  | cons hx _ ih =>
    intro k hk
    cases k with
    | zero => exact hx
    | succ k => exact ih k (by simpa using hk)
theorem poly_lit (w : World) (cs : Array Value) (l : List (Bool × Value)) (xs : List Raw) (hcs : cs.toList = recs l) (h : AllRaw w l xs) : ∃ W g, w.alloc (.cells cs 36) = W ∧ w.heap.size = g ∧ Poly W W.heap.size (some ⟨g, 0, none⟩) xs ∧ Below w.heap.size w W := by
  have hb : Below w.heap.size w (w.alloc (.cells cs 36)) := (Below.refl _ _).alloc (Nat.le_refl _) _
  refine ⟨_, _, rfl, rfl, ⟨fun _ => ⟨_, rfl, by simp, fun j hj => ?_⟩⟩, hb⟩
  obtain ⟨A, m, c, hv, h1, h2, h3⟩ := h.get j hj
  injection hv with hv
  have v0 := congrArg (fun a => a[0]?) hv
  have v1 := congrArg (fun a => a[1]?) hv
  simp [-List.getD_eq_getElem?_getD] at v0 v1
  obtain ⟨c0, c1⟩ := recs_get l (by rw [h.len]; exact hj) (p := l.getD j rec0) (getD_self l j rec0)
  refine ⟨A, m, c, ?_, ?_, h1, h2, (h3.below hb).more hb.size⟩
  · rw [add_plain, cell_of_row _ _ _ _ _ (0, 0) (heap_alloc_new w _), ← Array.getElem?_toList, hcs, Nat.mul_comm, c0, v0]
  · rw [add_plain]
    show (w.alloc (.cells cs 36)).cell? ⟨w.heap.size, j * 2 + 1, none⟩ = _
    rw [cell_of_row _ _ _ _ _ (0, 0) (heap_alloc_new w _), ← Array.getElem?_toList, hcs, Nat.mul_comm, c1, v1]
theorem lit_pair (W : World) (x y : Nat) (hx : x < W64) (hy : y < W64) : ∃ W' g, W.alloc (.cells #[.int .u64 (x : Int), .int .u64 (y : Int)] 33) = W' ∧ W.heap.size = g ∧ Lim W' W'.heap.size (some ⟨g, 0, none⟩) [x, y] ∧ Below W.heap.size W W' := by
  refine ⟨_, _, rfl, rfl, ?_, (Below.refl _ _).alloc (Nat.le_refl _) _⟩
  have ho : Own (W.alloc (.cells #[.int .u64 (x : Int), .int .u64 (y : Int)] 33)) W.heap.size (.slice (some ⟨W.heap.size, 0, none⟩) 2 2) [x, y] :=
    ⟨Small.cons hx (Small.one hy), rfl, .inr ⟨W.heap.size, 2, _, rfl, Nat.le_refl _, heap_alloc_new W _, Nat.le_refl _, by simp only [maxLen]; omega, rfl, rfl⟩⟩
  obtain ⟨A, c, e, hc, hlim, _⟩ := ho.form
  injection e with e1 e2 e3
  subst e1
  exact hlim
theorem HLim.stay {w w' : World} {A : Option Addr} {x : List Nat} {l c : Nat} (h : Lim w w.heap.size A x ∧ l = x.length ∧ l ≤ c) (hb : Below w.heap.size w w') : Lim w' w'.heap.size A x ∧ l = x.length ∧ l ≤ c := ⟨h.1.stay hb, h.2⟩
theorem RawV.at_low {w w' : World} {v : Value} {x : Raw} (h : RawV w v x) (hb : Below w.heap.size w w') : RawV w' v x := h.below hb
theorem lit_row {w : World} {g x y : Nat} (hx : x < W64) (hy : y < W64) (h : w.heap[g]? = some (.cells #[.int .u64 (x : Int), .int .u64 (y : Int)] 33 (0, 0))) (hlt : g < w.heap.size) : RawV w (.agg #[.bool false, .slice (some ⟨g, 0, none⟩) 2 2]) (false, [x, y]) := by
  have ho : Own w g (.slice (some ⟨g, 0, none⟩) 2 2) [x, y] :=
    ⟨Small.cons hx (Small.one hy), rfl, .inr ⟨g, 2, _, rfl, Nat.le_refl _, h, Nat.le_refl _, by simp only [maxLen]; omega, rfl, rfl⟩⟩
  obtain ⟨A, c, e, hc, hlim, _⟩ := ho.form
  injection e with e1 e2 e3
  subst e1
  exact ⟨_, _, _, rfl, rfl, Nat.le_refl _, hlim⟩
theorem limbs_w64 : limbs W64 = [0, 1] := by
  have hW := W64_eq
  rw [limbs_pos (by omega), Nat.mod_self, Nat.div_self (by omega), limbs_of_small (by omega) (by omega)]
theorem lit_w64 (v : World) : ∃ W g, v.alloc (.cells #[.int .u64 0, .int .u64 1] 33) = W ∧ v.heap.size = g ∧ IntV W (.agg #[.bool false, .slice (some ⟨g, 0, none⟩) 2 2]) ((W64 : Nat) : Int) ∧ Below v.heap.size v W := by
  have hW := W64_eq
  refine ⟨_, _, rfl, rfl, ⟨some ⟨v.heap.size, 0, none⟩, 2, 2, ?_, ?_, Nat.le_refl _, ?_⟩, (Below.refl _ _).alloc (Nat.le_refl _) _⟩
  · rw [decide_eq_false (by omega)]
  · rw [Int.natAbs_natCast, limbs_w64]; rfl
  · rw [Int.natAbs_natCast, limbs_w64]
    obtain ⟨A, l, c, e, _, _, h⟩ := lit_row (w := v.alloc (.cells #[.int .u64 0, .int .u64 1] 33)) (g := v.heap.size) (x := 0) (y := 1) (by omega) (by omega) (heap_alloc_new v _) (by simp)
    injection e with e
    have e1 := congrArg (fun a => a[1]?) e
    simp at e1
    obtain ⟨rfl, _, _⟩ := e1
    exact h
/-- The records of the small numbers. -/
theorem smalls (v : World) {s1 s2 s3 s4 s5 s6 s7 s8 s9 : Bool} {A1 A2 A3 A4 A5 A6 A7 A8 A9 : Option Addr} {l1 l2 l3 l4 l5 l6 l7 l8 l9 c1 c2 c3 c4 c5 c6 c7 c8 c9 : Nat}
    {x1 x2 x3 x4 x5 x6 x7 x8 x9 : Raw}
    (h1 : RawV v (.agg #[.bool s1, .slice A1 l1 c1]) x1) (h2 : RawV v (.agg #[.bool s2, .slice A2 l2 c2]) x2) (h3 : RawV v (.agg #[.bool s3, .slice A3 l3 c3]) x3)
    (h4 : RawV v (.agg #[.bool s4, .slice A4 l4 c4]) x4) (h5 : RawV v (.agg #[.bool s5, .slice A5 l5 c5]) x5) (h6 : RawV v (.agg #[.bool s6, .slice A6 l6 c6]) x6)
    (h7 : RawV v (.agg #[.bool s7, .slice A7 l7 c7]) x7) (h8 : RawV v (.agg #[.bool s8, .slice A8 l8 c8]) x8) (h9 : RawV v (.agg #[.bool s9, .slice A9 l9 c9]) x9) :
    ∃ W ad, ((v.alloc (.cells #[.int .u64 0, .int .u64 1] 33)).alloc (.cells #[.int .u64 1, .int .u64 0] 33)).alloc (.cells #[.bool false, .slice none 0 0, .bool s1, .slice A1 l1 c1, .bool s2, .slice A2 l2 c2, .bool s3, .slice A3 l3 c3, .bool s4, .slice A4 l4 c4, .bool s5, .slice A5 l5 c5, .bool s6, .slice A6 l6 c6, .bool s7, .slice A7 l7 c7, .bool s8, .slice A8 l8 c8, .bool s9, .slice A9 l9 c9, .bool false, .slice (some ⟨v.heap.size, 0, none⟩) 2 2, .bool true, .slice none 0 0, .bool false, .slice (some ⟨v.heap.size + 1, 0, none⟩) 2 2] 36) = W ∧
      (⟨v.heap.size + 1 + 1, 0, none⟩ : Addr) = ad ∧ (∃ xs : List Raw, xs.length = 13 ∧ Poly W W.heap.size (some ad) xs) ∧ Below v.heap.size v W := by
  obtain ⟨Wa, hWa⟩ : ∃ W, v.alloc (.cells #[.int .u64 0, .int .u64 1] 33) = W := ⟨_, rfl⟩
  obtain ⟨Wb, hWb⟩ : ∃ W, Wa.alloc (.cells #[.int .u64 1, .int .u64 0] 33) = W := ⟨_, rfl⟩
  have sa : Wa.heap.size = v.heap.size + 1 := by rw [← hWa]; simp
  have sb : Wb.heap.size = v.heap.size + 1 + 1 := by rw [← hWb]; simp [sa]
  have ba : Below v.heap.size v Wa := by rw [← hWa]; exact (Below.refl _ _).alloc (Nat.le_refl _) _
  have bb : Below Wa.heap.size Wa Wb := by rw [← hWb]; exact (Below.refl _ _).alloc (Nat.le_refl _) _
  have bab : Below v.heap.size v Wb := ba.trans (bb.mono ba.size)
  have hW := W64_eq
  have ra : RawV Wb (.agg #[.bool false, .slice (some ⟨v.heap.size, 0, none⟩) 2 2]) (false, [0, 1]) :=
    RawV.below (lit_row (by omega) (by omega) (by rw [← hWa]; exact heap_alloc_new v _) (by omega)) bb
  have rb : RawV Wb (.agg #[.bool false, .slice (some ⟨v.heap.size + 1, 0, none⟩) 2 2]) (false, [1, 0]) :=
    lit_row (by omega) (by omega) (by rw [← hWb, ← sa]; exact heap_alloc_new Wa _) (by omega)
  have rz : ∀ b, RawV Wb (.agg #[.bool b, .slice none 0 0]) (b, []) := fun b => ⟨none, 0, 0, rfl, rfl, Nat.le_refl _, Lim.nil _ _ _⟩
  have all : AllRaw Wb [(false, .slice none 0 0), (s1, .slice A1 l1 c1), (s2, .slice A2 l2 c2), (s3, .slice A3 l3 c3), (s4, .slice A4 l4 c4), (s5, .slice A5 l5 c5), (s6, .slice A6 l6 c6), (s7, .slice A7 l7 c7), (s8, .slice A8 l8 c8), (s9, .slice A9 l9 c9), (false, .slice (some ⟨v.heap.size, 0, none⟩) 2 2), (true, .slice none 0 0), (false, .slice (some ⟨v.heap.size + 1, 0, none⟩) 2 2)]
      [(false, []), x1, x2, x3, x4, x5, x6, x7, x8, x9, (false, [0, 1]), (true, []), (false, [1, 0])] :=
    .cons (rz _) (.cons (h1.below bab) (.cons (h2.below bab) (.cons (h3.below bab) (.cons (h4.below bab) (.cons (h5.below bab) (.cons (h6.below bab) (.cons (h7.below bab) (.cons (h8.below bab) (.cons (h9.below bab) (.cons ra (.cons (rz _) (.cons rb .nil))))))))))))
  obtain ⟨W, g, e1, e2, hp, hb⟩ := poly_lit Wb _ _ _ rfl all
  refine ⟨W, _, ?_, rfl, ⟨_, all.len.symm, ?_⟩, bab.trans (hb.mono bab.size)⟩
  · rw [hWa, hWb]; exact e1
  · rw [← sb, e2]; exact hp
theorem rootA_limbs : limbs rootA = List.replicate 2048 (W64 - 1) := by unfold rootA; rw [limbs_full, half4_eq]
theorem getD_full {n k : Nat} (h : k < n) : (List.replicate n (W64 - 1)).getD k 0 = W64 - 1 := by
  rw [List.getD_eq_getElem?_getD, List.getElem?_replicate, if_pos h]; rfl
theorem root_at {w : World} {b : Bool} {A : Option Addr} {l c : Nat} (h : IntV w (.agg #[.bool b, .slice A l c]) ((rootA : Nat) : Int)) : l = 2048 ∧ ∃ ad, A = some ad ∧ w.cell? ad = some (.int .u64 18446744073709551615) ∧ w.cell? ⟨ad.block, ad.off + 2047, none⟩ = some (.int .u64 18446744073709551615) := by
  obtain ⟨-, h1, -, h2⟩ := h.parts
  rw [Int.natAbs_natCast, rootA_limbs] at h1 h2
  rw [List.length_replicate] at h1
  have hW := W64_eq
  have hc : ((W64 - 1 : Nat) : Int) = 18446744073709551615 := by omega
  obtain ⟨ad, rfl, -, c0⟩ := h2.at_ (k := 0) (by rw [List.length_replicate]; omega)
  obtain ⟨ad', e, -, c1⟩ := h2.at_ (k := 2047) (by rw [List.length_replicate]; omega)
  injection e with e
  subst e
  rw [getD_full (by omega), hc] at c0 c1
  exact ⟨h1, ad, rfl, c0, c1⟩
theorem rest_at {w : World} {b : Bool} {A : Option Addr} {l c : Nat} (h : IntV w (.agg #[.bool b, .slice A l c]) ((restA : Nat) : Int)) : l = 2049 ∧ ∃ ad, A = some ad ∧ w.cell? ad = some (.int .u64 18446744073709551614) ∧ w.cell? ⟨ad.block, ad.off + 2048, none⟩ = some (.int .u64 1) := by
  obtain ⟨-, h1, -, h2⟩ := h.parts
  rw [Int.natAbs_natCast] at h1 h2
  obtain ⟨r1, r2, r3⟩ := rest_limbs half4 (by rw [half4_eq]; omega)
  have hl : (limbs restA).length = 2049 := by
    have h5 : (limbs restA).length = half4 + 1 := r1
    rw [h5, half4_eq]
  rw [hl] at h1
  rw [half4_eq] at r3
  have hW := W64_eq
  have hc : ((W64 - 2 : Nat) : Int) = 18446744073709551614 := by omega
  obtain ⟨ad, rfl, -, c0⟩ := h2.at_ (k := 0) (by rw [hl]; omega)
  obtain ⟨ad', e, -, c1⟩ := h2.at_ (k := 2048) (by rw [hl]; omega)
  injection e with e
  subst e
  have r2' : (limbs restA).getD 0 0 = W64 - 2 := r2
  rw [r2', hc] at c0
  have r3' : (limbs restA).getD 2048 0 = 1 := by unfold restA; rw [half4_eq]; exact r3
  rw [r3'] at c1
  exact ⟨h1, ad, rfl, c0, c1⟩
set_option maxHeartbeats 4000000 in
set_option maxRecDepth 100000 in
theorem law_RootNumbers (w : World) :
    Calls Try.prog 10 #[] w fun o w' => o = .returned (.bool true) ∧ Below w.heap.size w w' := by
  have hmk := make_limbs 4096 (by omega)
  simp only [show ((4096 : Nat) : Int) = 4096 from rfl] at hmk
  go_enter Try.func10, Try.ntmps10
  go_upto_region 2 with (fail)
  have HF0 : Hid (∃ W gs gf, (w.alloc (.cells (madeCells #[.int .u64 0] 4096) 33)).alloc (.cells #[.bool false, .slice (some ⟨w.heap.size, 0, none⟩) 4096 4096] 36) = W ∧ w.heap.size = gs ∧ w.heap.size + 1 = gf ∧ w.heap.size ≤ gs ∧ gf ≠ gs ∧ Filling w W gs gf 0) := Lib.hid (by
    refine ⟨_, _, _, rfl, rfl, rfl, Nat.le_refl _, by omega, ⟨⟨List.replicate 4096 0, (Row.made w 4096).alloc _, by simp, by simp⟩, ((Below.refl _ w).alloc (Nat.le_refl _) _).alloc (by simp) _, ?_⟩⟩
    have h := heap_alloc_new (w.alloc (.cells (madeCells #[.int .u64 0] 4096) 33)) (.cells #[.bool false, .slice (some ⟨w.heap.size, 0, none⟩) 4096 4096] 36)
    unfold Box2
    simpa using h)
  obtain ⟨W, gs, gf, hW, hgs, hgf, hle, hne, hfill⟩ := HF0.out
  have HLN := Lib.hid (And.intro hle hne)
  have HFI := Lib.hid hfill
  rw [hW, hgf]
  clear hW hgs hgf hle hne hfill HF0 hmk
  go_wp2_with fail
  go_loopw [2] (fun t2 wr => ∃ (i : Nat), i ≤ 4096 ∧ t2 = .int .i64 (i : Int) ∧ Hid (Filling w wr gs gf i)) (fun t2 _ => 4096 - (intOf t2).toNat)
  case atStart => exact ⟨0, by omega, rfl, HFI⟩
  case round =>
    clear HFI
    obtain ⟨i, hi, rfl, HFI⟩ := hrel
    by_cases hlt : i < 4096
    · obtain ⟨os, hrow, hlen, -⟩ := HFI.out.row
      have HST := Lib.hid (HFI.out.step hlt HLN.out.1 HLN.out.2)
      have hcg := hrow.cell (k := i) (by omega)
      have hfg := hrow.free i
      have a0 := HFI.out.box.cell0
      have a1 := HFI.out.box.cell1
      have hiI : (i : Int) < 4096 := by omega
      have HIL := Lib.hid hlt
      clear hrow hlen hlt
      go_wp2_with fail
      exact ⟨⟨i + 1, HIL.out, by go_num, HST⟩, by have := HIL.out; simp [intOf]; omega⟩
    · obtain rfl : i = 4096 := by omega
      obtain ⟨HA, hlc⟩ := HFI.out.done
      have HLC := Lib.hid hlc
      have HB := Lib.hid HFI.out.since
      have bf := Lib.hid HFI.out.box
      replace HA := Lib.hid HA
      clear hi hlt hlc HFI
      rw [show ((4096 : Nat) : Int) = 4096 from rfl]
      have a0 := bf.out.cell0
      have a1 := bf.out.cell1
      go_wp2_with fail
      refine (root_Square _ bigA _ HA.out (by rw [HLC.out]; omega)).mono ?_
      rintro e w3 ⟨ur, us, rfl, hr, hs, hb⟩
      rw [rootA_eq] at hr
      rw [restA_eq] at hs
      replace HA := Lib.hid (HA.out.stay hb)
      replace HB := Lib.hid (HB.out.stay hb)
      replace bf := Lib.hid (bf.out.stay hb)
      obtain ⟨br, Ar, lr, cr, rfl, HR⟩ := hr.open
      obtain ⟨bs, As, ls, cs, rfl, HS⟩ := hs.open
      replace HR := Lib.hid HR.out.int
      replace HS := Lib.hid HS.out.int
      clear hr hs hb a0 a1
      go_upto_region 7 with (fail)
      obtain ⟨W4, g3, g4, hW, hg, hr, bx3, bx4, G_g3, S_W4, hb⟩ := boxH2 w3 (.bool br) (.slice Ar lr cr) (.bool bs) (.slice As ls cs)
      rw [hW, hr, hg]
      replace HA := Lib.hid (HA.out.stay hb)
      replace HB := Lib.hid (HB.out.stay hb)
      replace bf := Lib.hid (bf.out.stay hb)
      replace HR := Lib.hid (HR.out.stay hb)
      replace HS := Lib.hid (HS.out.stay hb)
      have B_W4 := Lib.hid (show Since w3 W4 from hb)
      clear hW hg hr hb
      clear G_g3 S_W4 B_W4
      obtain ⟨rfl, adr, rfl, cr0, cr1⟩ := root_at HR.out
      obtain ⟨rfl, ads, rfl, cs0, cs1⟩ := rest_at HS.out
      have a0 := bx3.out.cell0
      have a1 := bx3.out.cell1
      have o0 := bx4.out.cell0
      have o1 := bx4.out.cell1
      go_upto_region 9 with (fail)
      clear a0 a1 o0 o1 cr0 cr1 cs0 cs1 HR HS bx3 bx4
      have a0 := bf.out.cell0
      have a1 := bf.out.cell1
      go_wp2_with fail
      refine (root_Of _ ((bigA : Nat) : Int) 4096 _ HA.out (by rw [Int.natAbs_natCast, HLC.out]; omega) (by omega) (by omega) (fun h => by omega)).mono ?_
      rintro e w5 ⟨u5, rfl, h5, hb⟩
      rw [rootZ_big, iroot_big0, raw_top] at h5
      replace HA := Lib.hid (HA.out.stay hb)
      replace HB := Lib.hid (HB.out.stay hb)
      replace bf := Lib.hid (bf.out.stay hb)
      obtain ⟨b5, A5, l5, c5, rfl, HX6⟩ := h5.open
      replace HX6 := Lib.hid (HX6).out.rawV
      clear h5 hb a0 a1
      go_upto_region 10 with (fail)
      obtain ⟨W6, g6, hW, hg, bx6, G_g6, S_W6, hb⟩ := boxH w5 (.bool b5) (.slice A5 l5 c5)
      rw [hW, hg]
      replace HA := Lib.hid (HA.out.stay hb)
      replace HB := Lib.hid (HB.out.stay hb)
      replace bf := Lib.hid (bf.out.stay hb)
      replace HX6 := Lib.hid (HX6.out.stay hb)
      have B_W6 := Lib.hid (show Since w5 W6 from hb)
      clear hW hg hb
      clear G_g6 S_W6 B_W6
      have a0 := bf.out.cell0
      have a1 := bf.out.cell1
      go_wp2_with fail
      refine (root_Of _ ((bigA : Nat) : Int) 262143 _ HA.out (by rw [Int.natAbs_natCast, HLC.out]; omega) (by omega) (by omega) (fun h => by omega)).mono ?_
      rintro e w7 ⟨u7, rfl, h7, hb⟩
      rw [rootZ_big, iroot_big2 (by rw [lim4_eq]), raw_two] at h7
      replace HA := Lib.hid (HA.out.stay hb)
      replace HB := Lib.hid (HB.out.stay hb)
      replace bf := Lib.hid (bf.out.stay hb)
      replace HX6 := Lib.hid (HX6.out.stay hb)
      replace bx6 := Lib.hid (bx6.out.stay hb)
      obtain ⟨b7, A7, l7, c7, rfl, HX8⟩ := h7.open
      replace HX8 := Lib.hid (HX8).out.rawV
      clear h7 hb a0 a1
      go_upto_region 11 with (fail)
      obtain ⟨W8, g8, hW, hg, bx8, G_g8, S_W8, hb⟩ := boxH w7 (.bool b7) (.slice A7 l7 c7)
      rw [hW, hg]
      replace HA := Lib.hid (HA.out.stay hb)
      replace HB := Lib.hid (HB.out.stay hb)
      replace bf := Lib.hid (bf.out.stay hb)
      replace HX6 := Lib.hid (HX6.out.stay hb)
      replace HX8 := Lib.hid (HX8.out.stay hb)
      replace bx6 := Lib.hid (bx6.out.stay hb)
      have B_W8 := Lib.hid (show Since w7 W8 from hb)
      clear hW hg hb
      clear G_g8 S_W8 B_W8
      have a0 := bf.out.cell0
      have a1 := bf.out.cell1
      go_wp2_with fail
      refine (root_Of _ ((bigA : Nat) : Int) 262144 _ HA.out (by rw [Int.natAbs_natCast, HLC.out]; omega) (by omega) (by omega) (fun h => by omega)).mono ?_
      rintro e w9 ⟨u9, rfl, h9, hb⟩
      rw [rootZ_big, iroot_big1 (by rw [lim4_eq]), raw_one'] at h9
      replace HA := Lib.hid (HA.out.stay hb)
      replace HB := Lib.hid (HB.out.stay hb)
      replace bf := Lib.hid (bf.out.stay hb)
      replace HX6 := Lib.hid (HX6.out.stay hb)
      replace HX8 := Lib.hid (HX8.out.stay hb)
      replace bx6 := Lib.hid (bx6.out.stay hb)
      replace bx8 := Lib.hid (bx8.out.stay hb)
      obtain ⟨b9, A9, l9, c9, rfl, HX10⟩ := h9.open
      replace HX10 := Lib.hid (HX10).out.rawV
      clear h9 hb a0 a1
      go_upto_region 12 with (fail)
      obtain ⟨W10, g10, hW, hg, bx10, G_g10, S_W10, hb⟩ := boxH w9 (.bool b9) (.slice A9 l9 c9)
      rw [hW, hg]
      replace HB := Lib.hid (HB.out.stay hb)
      replace HX6 := Lib.hid (HX6.out.stay hb)
      replace HX8 := Lib.hid (HX8.out.stay hb)
      replace HX10 := Lib.hid (HX10.out.stay hb)
      replace bx6 := Lib.hid (bx6.out.stay hb)
      replace bx8 := Lib.hid (bx8.out.stay hb)
      have B_W10 := Lib.hid (show Since w9 W10 from hb)
      clear hW hg hb
      clear G_g10 S_W10 B_W10 HA bf
      have r0 := later_cell bx6.out.cell0
      have r1 := later_cell bx6.out.cell1
      have q0 := later_cell bx8.out.cell0
      have q1 := later_cell bx8.out.cell1
      have s0 := later_cell bx10.out.cell0
      have s1 := later_cell bx10.out.cell1
      refine wp_region_stages (fun w' => ∃ δ : Later Nix W10, w' = δ.world) [(false, 0), (false, 1), (true, 2), (true, 3), (false, 4), (false, 5), (false, 6), (false, 7), (true, 8), (true, 9), (false, 10), (false, 11), (false, 12), (false, 13), (false, 14), (true, 15)] 16 [.reads [_, _], .loud _, .loud _, .reads [_, _, _, _], .loud _, .loud _, .reads [_, _, _, _, _], .loud _] [_, _, _] (by kernel_rfl) (by kernel_rfl) rfl rfl ?_ ?_
      · exact ⟨⟨_, nix_drawn W10⟩, rfl⟩
      refine wpStages_reads ?_
      repeat (go_big_quiet_step (fail))
      refine wpQuiet_nil ?_
      refine wpStages_loud rfl ?_
      intro K hK
      go_big_op
      have ex : Ext Nix W10 (W10.drewN 1) := nix_drawn W10
      have hb : Below W10.heap.size W10 (W10.drewN 1) := below_drewN (Below.refl _ _) 1
      replace HB := Lib.hid (HB.out.stay hb)
      replace HX6 := Lib.hid (HX6.out.stay hb)
      replace HX8 := Lib.hid (HX8.out.stay hb)
      replace HX10 := Lib.hid (HX10.out.stay hb)
      clear hb
      refine ((law18_whole false 18446744073709551615 _ (by rw [W64_eq]; omega))).mono ?_
      rintro e x1 ⟨y1, rfl, h1, hb⟩
      replace ex : Ext Nix W10 x1 := ex.later (Ext.of_below hb)
      replace HB := Lib.hid (HB.out.stay hb)
      replace HX6 := Lib.hid (HX6.out.stay hb)
      replace HX8 := Lib.hid (HX8.out.stay hb)
      replace HX10 := Lib.hid (HX10.out.stay hb)
      clear hb
      refine hK _ _ ⟨⟨_, ex⟩, rfl⟩ ?_
      clear hK K
      have HY1 := Lib.hid h1
      clear h1
      refine wpStages_loud rfl ?_
      intro K hK
      go_big_op
      refine ((law18_is _ _ _ _ 0 0 _ HX6.out HY1.out (by simp))).mono ?_
      rintro e x2 ⟨rfl, hb⟩
      replace ex : Ext Nix W10 x2 := ex.later (Ext.of_below hb)
      replace HB := Lib.hid (HB.out.stay hb)
      replace HX8 := Lib.hid (HX8.out.stay hb)
      replace HX10 := Lib.hid (HX10.out.stay hb)
      clear hb
      refine hK _ _ ⟨⟨_, ex⟩, rfl⟩ ?_
      clear hK K
      rw [show (decide ((0 : Int) = 0) && decide (((false, [18446744073709551615]) : Raw) = (false, [18446744073709551615]))) = true by simp]
      clear HX6 HY1
      refine wpStages_reads ?_
      repeat (go_big_quiet_step (fail))
      refine wpQuiet_nil ?_
      refine wpStages_loud rfl ?_
      intro K hK
      go_big_op
      refine ((law18_whole false 2 _ (by rw [W64_eq]; omega))).mono ?_
      rintro e x3 ⟨y3, rfl, h3, hb⟩
      replace ex : Ext Nix W10 x3 := ex.later (Ext.of_below hb)
      replace HB := Lib.hid (HB.out.stay hb)
      replace HX8 := Lib.hid (HX8.out.stay hb)
      replace HX10 := Lib.hid (HX10.out.stay hb)
      clear hb
      refine hK _ _ ⟨⟨_, ex⟩, rfl⟩ ?_
      clear hK K
      have HY3 := Lib.hid h3
      clear h3
      refine wpStages_loud rfl ?_
      intro K hK
      go_big_op
      refine ((law18_is _ _ _ _ 0 0 _ HX8.out HY3.out (by simp))).mono ?_
      rintro e x4 ⟨rfl, hb⟩
      replace ex : Ext Nix W10 x4 := ex.later (Ext.of_below hb)
      replace HB := Lib.hid (HB.out.stay hb)
      replace HX10 := Lib.hid (HX10.out.stay hb)
      clear hb
      refine hK _ _ ⟨⟨_, ex⟩, rfl⟩ ?_
      clear hK K
      rw [show (decide ((0 : Int) = 0) && decide (((false, [2]) : Raw) = (false, [2]))) = true by simp]
      clear HX8 HY3
      refine wpStages_reads ?_
      repeat (go_big_quiet_step (fail))
      refine wpQuiet_nil ?_
      refine wpStages_loud rfl ?_
      intro K hK
      go_big_op
      refine ((law18_whole false 1 _ (by rw [W64_eq]; omega))).mono ?_
      rintro e x5 ⟨y5, rfl, h5, hb⟩
      replace ex : Ext Nix W10 x5 := ex.later (Ext.of_below hb)
      replace HB := Lib.hid (HB.out.stay hb)
      replace HX10 := Lib.hid (HX10.out.stay hb)
      clear hb
      refine hK _ _ ⟨⟨_, ex⟩, rfl⟩ ?_
      clear hK K
      have HY5 := Lib.hid h5
      clear h5
      refine wpStages_nil ?_
      go_wp2_with fail
      refine (law18_is _ _ _ _ 0 0 _ HX10.out HY5.out (by simp)).mono ?_
      rintro e w11 ⟨rfl, hb⟩
      rw [show (decide ((0 : Int) = 0) && decide (((false, [1]) : Raw) = (false, [1]))) = true by simp]
      replace HB := Lib.hid (HB.out.stay hb)
      clear hb HX10 HY5 bx6 bx8 bx10 r0 r1 q0 q1 s0 s1 ex
      go_upto_region 15 with (fail)
      obtain ⟨W12, gn, hW, hg, hns, hb⟩ := nums_lit w11 #[.int .i64 1, .int .i64 2, .int .i64 3, .int .i64 5, .int .i64 64, .int .i64 65, .int .i64 4611686018427387904, .int .i64 4611686018427387905, .int .i64 0, .int .i64 (-1), .int .i64 (-9223372036854775808)] 3 [1, 2, 3, 5, 64, 65, 4611686018427387904, 4611686018427387905, 0, -1, -9223372036854775808] rfl
      rw [hW, hg]
      have HNS := Lib.hid hns
      replace HB := Lib.hid (HB.out.stay hb)
      clear hW hg hns hb
      go_wp2_with fail
      refine (law18_whole false 1 _ (by rw [W64_eq]; omega)).mono ?_
      rintro e v1 ⟨u1, rfl, h1, hb⟩
      replace HB := Lib.hid (HB.out.stay hb)
      replace HNS := Lib.hid (HNS.out.stay hb)
      obtain ⟨s1, A1, l1, c1, rfl, H1⟩ := h1.open
      clear h1 hb
      go_wp2_with fail
      refine (law18_whole true 1 _ (by rw [W64_eq]; omega)).mono ?_
      rintro e v2 ⟨u2, rfl, h2, hb⟩
      replace HB := Lib.hid (HB.out.stay hb)
      replace HNS := Lib.hid (HNS.out.stay hb)
      replace H1 := Lib.hid (H1.out.stay hb)
      obtain ⟨s2, A2, l2, c2, rfl, H2⟩ := h2.open
      clear h2 hb
      go_wp2_with fail
      refine (law18_whole false 2 _ (by rw [W64_eq]; omega)).mono ?_
      rintro e v3 ⟨u3, rfl, h3, hb⟩
      replace HB := Lib.hid (HB.out.stay hb)
      replace HNS := Lib.hid (HNS.out.stay hb)
      replace H1 := Lib.hid (H1.out.stay hb)
      replace H2 := Lib.hid (H2.out.stay hb)
      obtain ⟨s3, A3, l3, c3, rfl, H3⟩ := h3.open
      clear h3 hb
      go_wp2_with fail
      refine (law18_whole true 2 _ (by rw [W64_eq]; omega)).mono ?_
      rintro e v4 ⟨u4, rfl, h4, hb⟩
      replace HB := Lib.hid (HB.out.stay hb)
      replace HNS := Lib.hid (HNS.out.stay hb)
      replace H1 := Lib.hid (H1.out.stay hb)
      replace H2 := Lib.hid (H2.out.stay hb)
      replace H3 := Lib.hid (H3.out.stay hb)
      obtain ⟨s4, A4, l4, c4, rfl, H4⟩ := h4.open
      clear h4 hb
      go_wp2_with fail
      refine (law18_whole true 9 _ (by rw [W64_eq]; omega)).mono ?_
      rintro e v5 ⟨u5, rfl, h5, hb⟩
      replace HB := Lib.hid (HB.out.stay hb)
      replace HNS := Lib.hid (HNS.out.stay hb)
      replace H1 := Lib.hid (H1.out.stay hb)
      replace H2 := Lib.hid (H2.out.stay hb)
      replace H3 := Lib.hid (H3.out.stay hb)
      replace H4 := Lib.hid (H4.out.stay hb)
      obtain ⟨s5, A5, l5, c5, rfl, H5⟩ := h5.open
      clear h5 hb
      go_wp2_with fail
      refine (law18_whole false 64 _ (by rw [W64_eq]; omega)).mono ?_
      rintro e v6 ⟨u6, rfl, h6, hb⟩
      replace HB := Lib.hid (HB.out.stay hb)
      replace HNS := Lib.hid (HNS.out.stay hb)
      replace H1 := Lib.hid (H1.out.stay hb)
      replace H2 := Lib.hid (H2.out.stay hb)
      replace H3 := Lib.hid (H3.out.stay hb)
      replace H4 := Lib.hid (H4.out.stay hb)
      replace H5 := Lib.hid (H5.out.stay hb)
      obtain ⟨s6, A6, l6, c6, rfl, H6⟩ := h6.open
      clear h6 hb
      go_wp2_with fail
      refine (law18_whole true 64 _ (by rw [W64_eq]; omega)).mono ?_
      rintro e v7 ⟨u7, rfl, h7, hb⟩
      replace HB := Lib.hid (HB.out.stay hb)
      replace HNS := Lib.hid (HNS.out.stay hb)
      replace H1 := Lib.hid (H1.out.stay hb)
      replace H2 := Lib.hid (H2.out.stay hb)
      replace H3 := Lib.hid (H3.out.stay hb)
      replace H4 := Lib.hid (H4.out.stay hb)
      replace H5 := Lib.hid (H5.out.stay hb)
      replace H6 := Lib.hid (H6.out.stay hb)
      obtain ⟨s7, A7, l7, c7, rfl, H7⟩ := h7.open
      clear h7 hb
      go_wp2_with fail
      refine (law18_whole true 16 _ (by rw [W64_eq]; omega)).mono ?_
      rintro e v8 ⟨u8, rfl, h8, hb⟩
      replace HB := Lib.hid (HB.out.stay hb)
      replace HNS := Lib.hid (HNS.out.stay hb)
      replace H1 := Lib.hid (H1.out.stay hb)
      replace H2 := Lib.hid (H2.out.stay hb)
      replace H3 := Lib.hid (H3.out.stay hb)
      replace H4 := Lib.hid (H4.out.stay hb)
      replace H5 := Lib.hid (H5.out.stay hb)
      replace H6 := Lib.hid (H6.out.stay hb)
      replace H7 := Lib.hid (H7.out.stay hb)
      obtain ⟨s8, A8, l8, c8, rfl, H8⟩ := h8.open
      clear h8 hb
      go_wp2_with fail
      refine (law18_whole false 9223372036854775808 _ (by rw [W64_eq]; omega)).mono ?_
      rintro e v9 ⟨u9, rfl, h9, hb⟩
      replace HB := Lib.hid (HB.out.stay hb)
      replace HNS := Lib.hid (HNS.out.stay hb)
      replace H1 := Lib.hid (H1.out.stay hb)
      replace H2 := Lib.hid (H2.out.stay hb)
      replace H3 := Lib.hid (H3.out.stay hb)
      replace H4 := Lib.hid (H4.out.stay hb)
      replace H5 := Lib.hid (H5.out.stay hb)
      replace H6 := Lib.hid (H6.out.stay hb)
      replace H7 := Lib.hid (H7.out.stay hb)
      replace H8 := Lib.hid (H8.out.stay hb)
      obtain ⟨s9, A9, l9, c9, rfl, H9⟩ := h9.open
      clear h9 hb
      go_upto_region 16 with (fail)
      obtain ⟨W13, ad, hW, had, ⟨xs, hxl, hp⟩, hb⟩ := smalls v9 H1.out H2.out H3.out H4.out H5.out H6.out H7.out H8.out H9.out
      rw [hW, had]
      have HP := Lib.hid hp
      have HXL := Lib.hid hxl
      replace HB := Lib.hid (HB.out.stay hb)
      replace HNS := Lib.hid (HNS.out.stay hb)
      clear H1 H2 H3 H4 H5 H6 H7 H8 H9 hW had hp hxl hb
      obtain ⟨an, han⟩ : ∃ a : Addr, (⟨gn, 0, none⟩ : Addr) = a := ⟨_, rfl⟩
      rw [han] at HNS ⊢
      clear han
      have HNB := Lib.hid (show ∀ x ∈ ([1, 2, 3, 5, 64, 65, 4611686018427387904, 4611686018427387905, 0, -1, -9223372036854775808] : List Int), x < 9223372036854775808 by decide)
      have HNL := Lib.hid (show ([1, 2, 3, 5, 64, 65, 4611686018427387904, 4611686018427387905, 0, -1, -9223372036854775808] : List Int).length = 11 from rfl)
      obtain ⟨ns, hns⟩ : ∃ l : List Int, [1, 2, 3, 5, 64, 65, 4611686018427387904, 4611686018427387905, 0, -1, -9223372036854775808] = l := ⟨_, rfl⟩
      rw [hns] at HNS HNB HNL
      clear hns
      go_wp2_with fail
      go_loopw [14] (fun t14 wr => ∃ (i : Nat), i ≤ 13 ∧ t14 = .int .i64 (i : Int) ∧ Hid (Since w wr) ∧ Hid (Poly wr wr.heap.size (some ad) xs) ∧ Hid (Nums wr wr.heap.size (some an) ns)) (fun t14 _ => 13 - (intOf t14).toNat)
      case atStart => exact ⟨0, by omega, rfl, HB, HP, HNS⟩
      case round =>
        clear HB HP HNS
        obtain ⟨i, hi, rfl, HB, HP, HNS⟩ := hrel
        by_cases hlt : i < 13
        · have HIL := Lib.hid hlt
          have hiI : (i : Int) < 13 := by omega
          clear hi hlt
          go_wp2_with fail
          obtain ⟨wo, hwo⟩ : ∃ wo : World, wo = wr := ⟨_, rfl⟩
          subst hwo
          go_loopw [15] (fun t15 wr => ∃ (j : Nat), j ≤ 11 ∧ t15 = .int .i64 (j : Int) ∧ Hid (Since w wr) ∧ Hid (Poly wr wr.heap.size (some ad) xs) ∧ Hid (Nums wr wr.heap.size (some an) ns)) (fun t15 _ => 11 - (intOf t15).toNat)
          case atStart => exact ⟨0, by omega, rfl, HB, HP, HNS⟩
          case round =>
            rename_i t15 wr
            clear HB HP HNS
            obtain ⟨j, hj, rfl, HB, HP, HNS⟩ := hrel
            by_cases hlt : j < 11
            · have HJL := Lib.hid hlt
              have hjI : (j : Int) < 11 := by omega
              clear hj hlt
              obtain ⟨ar, Ar, lr, cr, ear, -, cr0, cr1, hlr, hcr, hlimr⟩ := HP.out.at_ (k := i) (by rw [HXL.out]; exact HIL.out)
              injection ear with ear
              subst ear
              obtain ⟨xi, hxi⟩ : ∃ x, xs.getD i (false, []) = x := ⟨_, rfl⟩
              rw [hxi] at cr0 hlr hlimr
              have HLI := Lib.hid (And.intro hlimr (And.intro hlr hcr))
              clear hxi hlr hcr hlimr
              obtain ⟨a', ea', -, cn⟩ := HNS.out.at_ (k := j) (by rw [HNL.out]; exact HJL.out)
              injection ea' with ea'
              subst ea'
              obtain ⟨n, hn⟩ : ∃ n, ns.getD j 0 = n := ⟨_, rfl⟩
              have HN := Lib.hid (show n < 9223372036854775808 by
                rw [← hn, List.getD_eq_getElem?_getD, List.getElem?_eq_getElem (by rw [HNL.out]; exact HJL.out)]
                exact HNB.out _ (List.getElem_mem _))
              rw [hn] at cn
              clear hn
              have r0 := later_cell cr0
              have r1 := later_cell cr1
              have r2 := later_cell cn
              go_upto_region 22 with (fail)
              refine wp_region_stages (fun w' => ∃ δ : Later Nix wr, w' = δ.world) [(false, 0), (false, 1), (false, 2), (false, 3), (false, 4), (false, 5), (false, 6), (false, 7), (true, 8)] 9 [.reads [_, _, _, _, _, _, _, _], .loud _] [_] (by kernel_rfl) (by kernel_rfl) rfl rfl ?_ ?_
              · exact ⟨⟨_, nix_drawn wr⟩, rfl⟩
              refine wpStages_reads ?_
              repeat (go_big_quiet_step (fail))
              refine wpQuiet_nil ?_
              refine wpStages_loud rfl ?_
              intro K hK
              go_big_op
              have ex : Ext Nix wr (wr.drewN 1) := nix_drawn wr
              have hb : Below wr.heap.size wr (wr.drewN 1) := below_drewN (Below.refl _ _) 1
              replace HB := Lib.hid (HB.out.stay hb)
              replace HP := Lib.hid (HP.out.stay hb)
              replace HNS := Lib.hid (HNS.out.stay hb)
              clear hb
              replace HLI := Lib.hid (HLim.stay HLI.out (below_drewN (Below.refl _ _) 1))
              refine ((law_RootOf _ _ _ _ _ n _ HLI.out.1 HLI.out.2.1 HLI.out.2.2 HN.out)).mono ?_
              rintro e y ⟨rfl, hb⟩
              replace ex : Ext Nix wr y := ex.later (Ext.of_below hb)
              replace HB := Lib.hid (HB.out.stay hb)
              replace HP := Lib.hid (HP.out.stay hb)
              replace HNS := Lib.hid (HNS.out.stay hb)
              clear hb
              refine hK _ _ ⟨⟨_, ex⟩, rfl⟩ ?_
              clear hK K
              refine wpStages_nil ?_
              clear ex HLI r0 r1 r2 cr0 cr1 cn
              go_wp2_with fail
              exact ⟨⟨j + 1, HJL.out, by go_num, HB, HP, HNS⟩, by have := HJL.out; simp [intOf]; omega⟩
            · obtain rfl : j = 11 := by omega
              clear hj hlt
              obtain ⟨ar, Ar, lr, cr, ear, -, cr0, cr1, hlr, hcr, hlimr⟩ := HP.out.at_ (k := i) (by rw [HXL.out]; exact HIL.out)
              injection ear with ear
              subst ear
              obtain ⟨xi, hxi⟩ : ∃ x, xs.getD i (false, []) = x := ⟨_, rfl⟩
              rw [hxi] at cr0 hlr hlimr
              have HLI := Lib.hid (And.intro hlimr (And.intro hlr hcr))
              clear hxi hlr hcr hlimr
              go_wp2_with fail
              refine (law_RootSquares _ _ _ _ _ _ HLI.out.1 HLI.out.2.1 HLI.out.2.2).mono ?_
              rintro e wq ⟨rfl, hb⟩
              clear cr0 cr1
              replace HB := Lib.hid (HB.out.stay hb)
              replace HP := Lib.hid (HP.out.stay hb)
              replace HNS := Lib.hid (HNS.out.stay hb)
              clear hb HLI
              obtain ⟨ar, Ar, lr, cr, ear, -, cr0, cr1, hlr, hcr, hlimr⟩ := HP.out.at_ (k := i) (by rw [HXL.out]; exact HIL.out)
              injection ear with ear
              subst ear
              obtain ⟨xi, hxi⟩ : ∃ x, xs.getD i (false, []) = x := ⟨_, rfl⟩
              rw [hxi] at cr0 hlr hlimr
              have HLI := Lib.hid (And.intro hlimr (And.intro hlr hcr))
              clear hxi hlr hcr hlimr
              go_wp2_with fail
              refine (law_RootPerfect _ _ _ _ _ _ HLI.out.1 HLI.out.2.1 HLI.out.2.2).mono ?_
              rintro e wp ⟨rfl, hb⟩
              clear cr0 cr1
              replace HB := Lib.hid (HB.out.stay hb)
              replace HP := Lib.hid (HP.out.stay hb)
              replace HNS := Lib.hid (HNS.out.stay hb)
              clear hb HLI
              go_wp2_with fail
              exact ⟨⟨i + 1, HIL.out, by go_num, HB, HP, HNS⟩, by have := HIL.out; simp [intOf]; omega⟩
        · obtain rfl : i = 13 := by omega
          clear hi hlt HP HNS HNB HNL HXL
          go_wp2_with fail
          refine (law18_whole true 1 _ (by rw [W64_eq]; omega)).mono ?_
          rintro e wz ⟨uz, rfl, hz, hb⟩
          obtain ⟨Az, lz, cz, huz, hlz, hcz, hlimz⟩ := hz
          have huz' : uz = .agg #[.bool true, .slice Az lz cz] := huz
          subst huz'
          replace HB := Lib.hid (HB.out.stay hb)
          have HZ := Lib.hid (And.intro hlimz hlz)
          clear huz hlz hcz hlimz hb
          go_wp2_with fail
          refine (root_Square_bad _ _ _ _ _ _ HZ.out.1 HZ.out.2 (.inr rfl)).mono ?_
          rintro e wy ⟨rfl, hb⟩
          unfold none2
          replace HB := Lib.hid (HB.out.stay hb)
          clear HZ hb
          go_upto_region 27 with (fail)
          obtain ⟨Wx, gx, hx, hW, hg, hr, bx16, bx17, G_gx, S_Wx, hb⟩ := boxH2 wy (.bool false) (.slice none 0 0) (.bool false) (.slice none 0 0)
          rw [hW, hr, hg]
          replace HB := Lib.hid (HB.out.stay hb)
          have B_Wx := Lib.hid (show Since wy Wx from hb)
          clear hW hg hr hb
          clear bx16 bx17 G_gx S_Wx B_Wx
          go_wp2_with fail
          refine (law18_whole true 1 _ (by rw [W64_eq]; omega)).mono ?_
          rintro e wz ⟨uz, rfl, hz, hb⟩
          obtain ⟨Az, lz, cz, huz, hlz, hcz, hlimz⟩ := hz
          have huz' : uz = .agg #[.bool true, .slice Az lz cz] := huz
          subst huz'
          replace HB := Lib.hid (HB.out.stay hb)
          have HZ := Lib.hid (And.intro hlimz hlz)
          clear huz hlz hcz hlimz hb
          go_wp2_with fail
          refine (root_Of_bad _ _ _ _ _ 2 _ HZ.out.1 HZ.out.2 (.inr (.inr ⟨rfl, rfl⟩)) (by omega)).mono ?_
          rintro e wy ⟨rfl, hb⟩
          unfold none2
          replace HB := Lib.hid (HB.out.stay hb)
          clear HZ hb
          go_upto_region 28 with (fail)
          obtain ⟨Wv, gv, hW, hg, bx19, G_gv, S_Wv, hb⟩ := boxH wy (.bool false) (.slice none 0 0)
          rw [hW, hg]
          replace HB := Lib.hid (HB.out.stay hb)
          have B_Wv := Lib.hid (show Since wy Wv from hb)
          clear hW hg hb
          clear bx19 G_gv S_Wv B_Wv
          go_wp2_with fail
          obtain ⟨Wu, gu, hW, hg, hu, hb⟩ := lit_w64 Wv
          rw [hW, hg]
          have HU := Lib.hid hu
          replace HB := Lib.hid (HB.out.stay hb)
          clear hW hg hu hb
          refine (root_Perfect _ ((W64 : Nat) : Int) _ HU.out (by rw [Int.natAbs_natCast]; unfold lc; rw [limbs_w64]; decide)).mono ?_
          rintro e wp ⟨uy, y, kk, rfl, hp, hy, hb⟩
          obtain ⟨rfl, rfl⟩ := perf_two64 hp
          rw [show ((64 : Nat) : Int) = 64 from rfl]
          replace HB := Lib.hid (HB.out.stay hb)
          have hy2 := hy.rawV
          rw [show (2 : Int) = ((2 : Nat) : Int) from rfl, raw_two] at hy2
          clear hy hb HU hp
          obtain ⟨by_, Ay, ly, cy, rfl, HY⟩ := hy2.open
          clear hy2
          go_upto_region 29 with (fail)
          obtain ⟨Wt, gt, hW, hg, bx21, G_gt, S_Wt, hb⟩ := boxH wp (.bool by_) (.slice Ay ly cy)
          rw [hW, hg]
          replace HB := Lib.hid (HB.out.stay hb)
          replace HY := Lib.hid (HY.out.stay hb)
          have B_Wt := Lib.hid (show Since wp Wt from hb)
          clear hW hg hb
          clear G_gt S_Wt B_Wt
          have r0 := later_cell bx21.out.cell0
          have r1 := later_cell bx21.out.cell1
          refine wp_region_stages (fun w' => ∃ δ : Later Nix Wt, w' = δ.world) [(false, 0), (false, 1), (false, 2), (false, 3), (false, 4), (false, 5), (false, 6), (false, 7), (false, 8), (true, 9)] 10 [.reads [_, _, _, _, _, _, _, _, _], .loud _] [_, _, _, _, _, _, _, _, _, _] (by kernel_rfl) (by kernel_rfl) rfl rfl ?_ ?_
          · exact ⟨⟨_, nix_drawn Wt⟩, rfl⟩
          refine wpStages_reads ?_
          repeat (go_big_quiet_step (fail))
          refine wpQuiet_nil ?_
          refine wpStages_loud rfl ?_
          intro K hK
          go_big_op
          have ex : Ext Nix Wt (Wt.drewN 1) := nix_drawn Wt
          have hb : Below Wt.heap.size Wt (Wt.drewN 1) := below_drewN (Below.refl _ _) 1
          replace HB := Lib.hid (HB.out.stay hb)
          replace HY := Lib.hid (HY.out.stay hb)
          clear hb
          refine ((law18_whole false 2 _ (by rw [W64_eq]; omega))).mono ?_
          rintro e x1 ⟨y1, rfl, h1, hb⟩
          replace ex : Ext Nix Wt x1 := ex.later (Ext.of_below hb)
          replace HB := Lib.hid (HB.out.stay hb)
          replace HY := Lib.hid (HY.out.stay hb)
          clear hb
          refine hK _ _ ⟨⟨_, ex⟩, rfl⟩ ?_
          clear hK K
          have HY1 := Lib.hid h1
          clear h1
          refine wpStages_nil ?_
          go_wp2_with fail
          refine (law18_is _ _ _ _ 0 0 _ HY.out HY1.out (by simp)).mono ?_
          rintro e w18 ⟨rfl, hb⟩
          rw [show (decide ((0 : Int) = 0) && decide (((false, [2]) : Raw) = (false, [2]))) = true by simp]
          replace HB := Lib.hid (HB.out.stay hb)
          clear hb HY HY1 bx21 r0 r1 ex
          go_wp2_with fail
          refine (law18_awake _).mono ?_
          rintro e w19 ⟨rfl, hb⟩
          replace HB := Lib.hid (HB.out.stay hb)
          clear hb
          go_wp2_with fail
          go_ret
          exact ⟨rfl, HB.out⟩
end Go.Proofs.Ytmnfokapdipcdaa
