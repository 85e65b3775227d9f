import Derived.Test.YtonbhpadoplpkaaStay
/- The package rosettekit: what is lent (limbs with marks behind them), and whether it was kept. -/
namespace Go.Proofs.Ytonbhpadoplpkaa
open Go.RowKit Go.Deep
/-- The marks behind what is lent. -/
def markN (i : Nat) : Nat := 8000024 + i
def marks (n : Nat) : List Nat := (List.range n).map markN
theorem marks_length (n : Nat) : (marks n).length = n := by simp [marks]
theorem marks_succ (n : Nat) : marks (n + 1) = marks n ++ [markN n] := by simp [marks, List.range_succ]
theorem markN_lt {i : Nat} (h : i ≤ 4294967296) : markN i < W64 := by unfold markN; rw [W64_eq]; omega
theorem marks_getD {n i : Nat} (h : i < n) : (marks n).getD i 0 = markN i := by simp [marks, h]
theorem lent_getD_lo {xs ms : List Nat} {i : Nat} (h : i < xs.length) : (xs ++ ms).getD i 0 = xs.getD i 0 := by
  simp [List.getElem?_append_left h]
theorem lent_getD_hi {xs : List Nat} {i j n : Nat} (hi : i = xs.length + j) (h : j < n) : (xs ++ marks n).getD i 0 = markN j := by
  subst hi
  rw [List.getD_eq_getElem?_getD, List.getElem?_append_right (by omega), Nat.add_sub_cancel_left, ← List.getD_eq_getElem?_getD, marks_getD h]
theorem make_limbs_cap0 (c : Nat) (h : c ≤ 35184372088832) : ∀ W : World, (Instr.makeSlice 22 (.int .i64 0) (.int .i64 (c : Int))).run Try.prog W = .ok (.slice (some ⟨W.heap.size, 0, none⟩) 0 c) (W.alloc (.cells (madeCells #[.int .u64 0] c) 53)) := by
  intro W
  obtain ⟨i0, hi, hz0, hz1, hz2⟩ := info_parts info_u64
  have hr := run_make (P := Try.prog) W 22 53 i0 (.int .u64 0) Try.underlying22 hi hz0 .i64 .i64 0 c (by omega) (by omega) (by rw [hz2]; omega) (by omega)
  simp only [Int.toNat_natCast, hz1, Nat.mul_one] at hr
  exact hr
theorem wraps_sub {l j : Nat} (h : j ≤ 1000000) : IntKind.i64.wrap ((l : Int) + (j : Int) - (l : Int)) = (j : Int) ∧ wrap64 ((l : Int) + (j : Int) - (l : Int)) = (j : Int) := by
  have e : (l : Int) + (j : Int) - (l : Int) = (j : Int) := by omega
  rw [e]
  exact ⟨by rw [IntKind.wrap_i64]; omega, by unfold wrap64; omega⟩
/-- A record whose limbs are lent. -/
def LentV (w : World) (v : Value) (x : Raw) : Prop := ∃ A l c, v = .agg #[.bool x.1, .slice A l c] ∧ l = x.2.length ∧ l + 12 ≤ c ∧ Lim w w.heap.size A (x.2 ++ marks 12)
theorem LentV.stay {w w' : World} {v : Value} {x : Raw} (h : LentV w v x) (hb : Below w.heap.size w w') : LentV w' v x := by
  obtain ⟨A, l, c, rfl, hl, hc, hlim⟩ := h
  exact ⟨A, l, c, rfl, hl, hc, hlim.stay hb⟩
theorem LentV.put {w w' : World} {g : Nat} {v : Value} {x : Raw} (h : LentV w v x) (p : Put g w w') : LentV w' v x := by
  obtain ⟨A, l, c, rfl, hl, hc, hlim⟩ := h
  exact ⟨A, l, c, rfl, hl, hc, hlim.put p⟩
theorem LentV.raw {w : World} {v : Value} {x : Raw} (h : LentV w v x) : RawV w v x := by
  obtain ⟨A, l, c, rfl, hl, hc, hlim⟩ := h
  refine ⟨A, l, c, rfl, hl, by omega, ?_⟩
  have := hlim.take x.2.length
  rwa [List.take_left] at this
theorem LentV.open {w : World} {v : Value} {x : Raw} (h : LentV w v x) : ∃ b A l c, v = .agg #[.bool b, .slice A l c] ∧ Hid (LentV w (.agg #[.bool b, .slice A l c]) x) := by
  obtain ⟨A, l, c, rfl, hl, hc, hlim⟩ := h
  exact ⟨x.1, A, l, c, rfl, Lib.hid ⟨A, l, c, rfl, hl, hc, hlim⟩⟩
theorem LentV.parts {w : World} {b : Bool} {A : Option Addr} {l c : Nat} {x : Raw} (h : LentV w (.agg #[.bool b, .slice A l c]) x) : b = x.1 ∧ l = x.2.length ∧ l + 12 ≤ c ∧ Lim w w.heap.size A (x.2 ++ marks 12) := by
  obtain ⟨A', l', c', hv, hl, hc, hlim⟩ := h
  injection hv with hv
  have h0 := congrArg (fun a => a[0]?) hv
  have h1 := congrArg (fun a => a[1]?) hv
  simp at h0 h1
  obtain ⟨rfl, rfl, rfl⟩ := h1
  exact ⟨h0, hl, hc, hlim⟩
theorem Box2.write1 {w : World} {g : Nat} {b : Bool} {A : Option Addr} {l c : Nat} (h : Box2 w g (.bool b) (.slice A l c)) (y : Value) :
    ∃ W, w.setCell ⟨g, 1, none⟩ y = W ∧ Hid (Box2 W g (.bool b) y) ∧ Put g w W := by
  refine ⟨_, rfl, Lib.hid ?_, ⟨?_, fun _ _ _ hf => Fresh.set hf g 1 y⟩⟩
  · unfold Box2 at h ⊢
    simp [World.setCell, Array.getElem?_modify, h]
  · refine ⟨rfl, rfl, rfl, by simp, fun i hi hn => ?_, fun i hi _ => by subst hi; exact h.nums⟩
    rw [Below.heap_setCell _ _ _ i (by simpa using hn)]
end Go.Proofs.Ytonbhpadoplpkaa
