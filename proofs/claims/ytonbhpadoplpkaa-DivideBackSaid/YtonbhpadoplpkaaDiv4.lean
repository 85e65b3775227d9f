import Derived.Test.YtonbhpadoplpkaaDiv3
import Derived.Test.YtonbhpadoplpkaaLimb3
/- The package divide: divide, wrong, Trunc, Floor, Exact, Mod. -/
namespace Go.Proofs.Ytonbhpadoplpkaa
open Go.RowKit Go.Deep
theorem Own.part {w : World} {base : Nat} {A : Option Addr} {l c : Nat} {xs : List Nat} (h : Own w base (.slice A l c) xs) (hl : xs.length ≤ 1099511627776) : Part w base (.slice A l c) (val xs) := by
  obtain ⟨A', c', hv, hc, hlim, _⟩ := h.form
  injection hv with e1 e2 e3
  subst e1 e2 e3
  exact ⟨_, _, xs, rfl, hc, hl, hlim, h.fresh, rfl⟩
theorem lc_lt_of {m n : Nat} (h : (limbs m).length < (limbs n).length) : m < n := by
  rcases Nat.lt_or_ge m n with h1 | h1
  · exact h1
  · have := limbs_mono h1
    omega
set_option maxRecDepth 100000 in
theorem divide_divide (A1 A2 : Option Addr) (c1 c2 m n l1 l2 : Nat) (w : World) (h1 : Lim w w.heap.size A1 (limbs m)) (h2 : Lim w w.heap.size A2 (limbs n)) (e1 : l1 = (limbs m).length) (e2 : l2 = (limbs n).length) (hl1 : l1 ≤ 4096) (hl2 : l2 ≤ 4096) (hc1 : l1 ≤ c1) (hn : n ≠ 0) (hg : l2 ≤ 1200 ∨ l1 ≤ l2 + 800) :
    Calls Try.prog 37 #[.slice A1 l1 c1, .slice A2 l2 c2] w fun e w' => ∃ u v, e = .returned (.tuple #[u, v]) ∧ Part w' w.heap.size u (m / n) ∧ Part w' w.heap.size v (m % n) ∧ Sep u v ∧ Below w.heap.size w w' := by
  have hl1I : (l1 : Int) ≤ 4096 := by omega
  have hl2I : (l2 : Int) ≤ 4096 := by omega
  have H1 := Lib.hid h1
  have H2 := Lib.hid h2
  have E1 := Lib.hid e1
  have E2 := Lib.hid e2
  have HC1 := Lib.hid hc1
  have HN := Lib.hid hn
  have HL1 := Lib.hid hl1
  have HL2 := Lib.hid hl2
  have l20 : 0 < l2 := by
    rcases Nat.eq_zero_or_pos l2 with h | h
    · exact absurd (limbs_eq_nil.1 (List.eq_nil_of_length_eq_zero (by omega))) hn
    · exact h
  by_cases hlt : l1 < l2
  · have hltI : (l1 : Int) < (l2 : Int) := by omega
    have HLT := Lib.hid hlt
    clear h1 h2 e1 e2 hc1 hn hl1 hl2 hlt hg l20
    go_enter Try.func37, Try.ntmps37
    have HO : Own (w.alloc (.cells #[] 53)) w.heap.size (.slice (some ⟨w.heap.size, 0, none⟩) 0 0) [] := by
      have h := Own.made w w.heap.size 0 0 (Nat.le_refl _) (Nat.le_refl _) (by omega)
      rwa [show madeCells #[.int .u64 0] 0 = #[] by simp [madeCells]] at h
    have HB : Below w.heap.size w (w.alloc (.cells #[] 53)) := (Below.refl _ _).alloc (Nat.le_refl _) _
    go_wp2_with (at_builtin; refine append_lim (w0 := w) w.heap.size rfl _ _ rfl _ [] A1 l1 c1 (limbs m) (by rfl) (by rfl) E1.out (H1.out.below HB) HO HB HB.size (by have := HL1.out; have := E1.out; simp; omega) fun v1 w1 hown hbel hgrow _ => ?_)
    obtain ⟨A, k, c, rfl⟩ := hown.slice
    go_wp2_with fail
    go_ret2
    have hmn := lc_lt_of (m := m) (n := n) (by rw [← E1.out, ← E2.out]; exact HLT.out)
    refine ⟨_, _, rfl, ?_, ?_, Sep.nil _, hbel⟩
    · rw [Nat.div_eq_of_lt hmn]; exact Part.nil _ _
    · rw [Nat.mod_eq_of_lt hmn]
      have h := Own.part (by simpa using hown) (xs := limbs m) (by have := HL1.out; have := E1.out; omega)
      rwa [val_limbs] at h
  · have hltI : ¬ (l1 : Int) < (l2 : Int) := by omega
    by_cases h21 : l2 = 1
    · subst h21
      obtain ⟨ad, rfl, hb, hcell⟩ := h2.at_ (k := 0) (by omega)
      obtain ⟨d, hd⟩ : ∃ d, (limbs n).getD 0 0 = d := ⟨_, rfl⟩
      have hdn : d = n := by
        have h3 := val_limbs n
        rcases hx : limbs n with _ | ⟨x, xs⟩
        · rw [hx] at e2; simp at e2
        · rw [hx] at e2 h3 hd
          have : xs = [] := by simpa using e2.symm
          subst this
          simp [val] at h3 hd
          omega
      have hdW : d < W64 := hd ▸ h2.small.getD 0
      rw [hd] at hcell
      rw [hdn] at hcell hdW
      rw [show ad.add 0 = ad from rfl] at hcell
      replace hltI : ¬ (l1 : Int) < 1 := by omega
      have HDW := Lib.hid hdW
      clear h1 h2 e1 e2 hc1 hn hl1 hl2 hlt hg l20 hd hdn hdW
      go_enter Try.func37, Try.ntmps37
      go_wp2_with fail
      have C := divide_short A1 c1 (limbs m) n w (Nat.le_refl _) H1.out (by have := HL1.out; have := E1.out; omega) HDW.out (by have := HN.out; omega)
      rw [← E1.out, val_limbs] at C
      refine C.mono ?_
      rintro e w1 ⟨u, v, rfl, hu, hv, hs, hb1⟩
      have HU := Lib.hid hu
      have HV := Lib.hid hv
      have HS := Lib.hid hs
      clear C hu hv hs
      go_wp2_with fail
      go_ret2
      exact ⟨_, _, rfl, HU.out, HV.out, HS.out, hb1⟩
    · have h21I : ((l2 : Int) == 1) = false := beq_eq_false_iff_ne.2 (by omega)
      have C := divide_long A1 A2 c1 c2 (l1 - l2) (l2 - 2) (limbs m) (limbs n) w h1 h2 (by omega) (by omega) (by omega) (by
        have h3 := norm_limbs n
        rcases h3 with h3 | h3
        · rw [h3] at e2; simp at e2; omega
        · rw [show l2 - 2 + 1 = (limbs n).length - 1 by omega]; exact h3)
      rw [← e1, ← e2, val_limbs, val_limbs] at C
      have HCC := Lib.hid C
      have hq : ((l2 : Int) ≤ 1200) ∨ (1200 < (l2 : Int) ∧ (l1 : Int) - (l2 : Int) ≤ 800) := by omega
      clear h1 h2 e1 e2 hc1 hn hl1 hl2 hlt hg l20 h21 C
      rcases hq with hq | ⟨hq1, hq2⟩
      · go_enter Try.func37, Try.ntmps37
        go_wp2_with fail
        refine HCC.out.mono ?_
        rintro e w1 ⟨u, v, rfl, hu, hv, hs, hb1⟩
        have HU := Lib.hid hu
        have HV := Lib.hid hv
        have HS := Lib.hid hs
        clear hu hv hs
        go_wp2_with fail
        go_ret2
        exact ⟨_, _, rfl, HU.out, HV.out, HS.out, hb1⟩
      · go_enter Try.func37, Try.ntmps37
        go_wp2_with fail
        refine HCC.out.mono ?_
        rintro e w1 ⟨u, v, rfl, hu, hv, hs, hb1⟩
        have HU := Lib.hid hu
        have HV := Lib.hid hv
        have HS := Lib.hid hs
        clear hu hv hs
        go_wp2_with fail
        go_ret2
        exact ⟨_, _, rfl, HU.out, HV.out, HS.out, hb1⟩
end Go.Proofs.Ytonbhpadoplpkaa
