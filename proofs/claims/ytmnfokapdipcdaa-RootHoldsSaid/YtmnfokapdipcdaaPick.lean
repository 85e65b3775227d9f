import Derived.Test.YtmnfokapdipcdaaNum
import Derived.Test.YtmnfokapdipcdaaPoly
/- The package rosettekit: Pick. -/
namespace Go.Proofs.Ytmnfokapdipcdaa
open Go.RowKit Go.Deep
set_option maxRecDepth 100000 in
theorem kit_pick (x : Int) (n : Nat) (w : World) (hn : 1 ≤ n) (hn2 : n ≤ 1000) : Calls Try.prog 31 #[.int .i64 x, .int .i64 (n : Int)] w fun e w' => e = .returned (.int .i64 (x % (n : Int))) ∧ w = w' := by
  have h1 : (1 : Int) ≤ (n : Int) := by omega
  have h2 : (n : Int) ≤ 1000 := by omega
  have h0 : ((n : Int) == 0) = false := beq_eq_false_iff_ne.2 (by omega)
  obtain ⟨r, hr⟩ : ∃ r, x.tmod (n : Int) = r := ⟨_, rfl⟩
  have hrb : -(n : Int) < r ∧ r < (n : Int) := by
    rw [← hr]
    have h3 := Int.tmod_lt_of_pos x (b := (n : Int)) (by omega)
    have h4 := Int.lt_tmod_of_pos x (b := (n : Int)) (by omega)
    exact ⟨h4, h3⟩
  have HE := Lib.hid (show x % (n : Int) = if r < 0 then r + (n : Int) else r by
    rw [← hr]
    by_cases hx : 0 ≤ x
    · rw [Int.tmod_eq_emod_of_nonneg hx]
      have := Int.emod_nonneg x (b := (n : Int)) (by omega)
      rw [if_neg (by omega)]
    · have h5 := Int.tmod_eq_emod (a := x) (b := (n : Int))
      have h6 := Int.emod_nonneg x (b := (n : Int)) (by omega)
      have h7 := Int.emod_lt_of_pos x (b := (n : Int)) (by omega)
      rw [h5]
      split
      · rename_i hc
        rcases hc with hc | hc
        · omega
        · have := Int.emod_eq_zero_of_dvd hc
          rw [if_neg (by omega)]; omega
      · have h8 : ((n : Int).natAbs : Int) = (n : Int) := by omega
        rw [if_pos (by omega)]; omega)
  obtain ⟨hr1, hr2⟩ := hrb
  have HN := Lib.hid hn
  clear hn hn2
  by_cases hneg : r < 0
  · rw [HE.out, if_pos hneg]
    go_enter Try.func31, Try.ntmps31
    go_wp2_with fail
    go_ret
    exact ⟨rfl, rfl⟩
  · rw [HE.out, if_neg hneg]
    have hr0 : 0 ≤ r := by omega
    go_enter Try.func31, Try.ntmps31
    go_wp2_with fail
    go_ret
    exact ⟨rfl, rfl⟩
end Go.Proofs.Ytmnfokapdipcdaa
