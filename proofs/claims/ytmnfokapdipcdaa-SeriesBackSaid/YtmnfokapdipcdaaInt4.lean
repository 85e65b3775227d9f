import Derived.Test.YtmnfokapdipcdaaInt3
/- Whole numbers by limbs: Bits, SetBits. -/
namespace Go.Proofs.Ytmnfokapdipcdaa
open Go.RowKit Go.Deep
theorem take_copy {os xs : List Nat} {k : Nat} (hl : os.length = xs.length) (hk : k < xs.length) (h : os.take k = xs.take k) : (os.set k (xs.getD k 0)).take (k + 1) = xs.take (k + 1) := by
  apply List.ext_getElem?
  intro j
  have h1 := congrArg (fun l => l[j]?) h
  simp only [List.getElem?_take] at h1 ⊢
  by_cases hj : j < k
  · rw [if_pos hj, if_pos hj] at h1
    rw [if_pos (by omega), if_pos (by omega), List.getElem?_set_ne (by omega)]
    exact h1
  · by_cases he : j = k
    · subst he
      rw [if_pos (by omega), if_pos (by omega), List.getElem?_set_self (by omega)]
      simp [hk]
    · rw [if_neg (by omega), if_neg (by omega)]

set_option maxRecDepth 100000 in
theorem int_setBits (g : Nat) (z0 : Int) (A : Option Addr) (c : Nat) (xs : List Nat) (w : World) (hg : IntAt w g z0) (h1 : Lim w w.heap.size A xs) (hl : xs.length ≤ 1099511627776) :
    Calls Try.prog 108 #[.pointer (some ⟨g, 0, none⟩), .slice A xs.length c] w fun e w' => e = .returned (.pointer (some ⟨g, 0, none⟩)) ∧ IntAt w' g (val xs : Nat) ∧ Ext (· = g) w w' := by
  have HL := Lib.hid hl
  have hmk := make_limbs xs.length (by omega)
  have hlI : (xs.length : Int) ≤ 1099511627776 := by omega
  clear hl
  go_enter Try.func108, Try.ntmps108
  go_wp2_with fail
  go_loopw [13] (fun t13 wr => ∃ (k : Nat) (os : List Nat), k ≤ xs.length ∧ t13 = .int .i64 (k : Int) ∧ os.length = xs.length ∧ os.take k = xs.take k ∧ Row wr w.heap.size os ∧ Below w.heap.size w wr) (fun t13 _ => xs.length - (intOf t13).toNat)
  case atStart =>
    exact ⟨0, List.replicate xs.length 0, by omega, rfl, by simp, by simp, Row.made _ _, (Below.refl _ _).alloc (Nat.le_refl _) _⟩
  case round =>
    obtain ⟨k, os, hk, rfl, ho, htk, hrow, hbel⟩ := hrel
    have HT := Lib.hid htk
    have HO := Lib.hid ho
    clear htk ho
    by_cases hlt : k < xs.length
    · obtain ⟨ad, rfl, hb, hcell⟩ := (h1.below hbel).at_ hlt
      have HS := Lib.hid (take_copy HO.out hlt HT.out)
      obtain ⟨x, hx⟩ : ∃ x, xs.getD k 0 = x := ⟨_, rfl⟩
      have hxs : x < W64 := hx ▸ h1.small.getD k
      rw [hx] at hcell HS
      have hcg := hrow.cell (k := k) (by rw [HO.out]; omega)
      have hfg := hrow.free k
      have hset := hrow.set (k := k) (x := x) (by rw [HO.out]; omega) hxs
      have hbel' := hbel.setCell (p := ⟨w.heap.size, k, none⟩) (Nat.le_refl _) (.int .u64 (x : Int))
      have HLn := Lib.hid (show (os.set k x).length = xs.length by rw [List.length_set, HO.out])
      clear hx hxs
      go_wp2_with fail
      exact ⟨⟨k + 1, os.set k x, by omega, by go_num, HLn.out, HS.out, hset, hbel'⟩, by simp [intOf]; omega⟩
    · obtain rfl : k = xs.length := by omega
      have hos : os = xs := by
        have h2 := HT.out
        rw [List.take_length] at h2
        rwa [List.take_of_length_le (by rw [HO.out]; omega)] at h2
      subst hos
      have he : Ext Nix w wr := Ext.of_below hbel
      go_wp2_with fail
      refine (int_put' g z0 false _ os.length os wr (hg.ext he (fun h => h)) (hrow.lim hrow.lt) (Nat.le_refl _) HL.out).mono ?_
      rintro e w2 ⟨rfl, hz, he2⟩
      go_wp2_with fail
      go_ret
      exact ⟨rfl, hz, he.after he2 hg.num⟩

theorem info_word : (Try.prog.info? 111).map (fun i => (i.zero, i.size, i.bytes)) = some (some (.int .u64 0), 1, 8) := by kernel_rfl
theorem make_words (n : Nat) (h : n ≤ 35184372088832) : ∀ W : World, (Instr.makeSlice 109 (.int .i64 (n : Int)) (.int .i64 (n : Int))).run Try.prog W = .ok (.slice (some ⟨W.heap.size, 0, none⟩) n n) (W.alloc (.cells (madeCells #[.int .u64 0] n) 111)) :=
  fun W => run_make_row' (P := Try.prog) 109 111 (.int .u64 0) 8 Try.underlying109 info_word rfl .i64 .i64 n (by omega) (by omega) W
set_option maxRecDepth 100000 in
theorem int_bits (gx : Nat) (x : Int) (w : World) (hx : IntAt w gx x) (hl : (limbs x.natAbs).length ≤ 1099511627776) :
    Calls Try.prog 106 #[.pointer (some ⟨gx, 0, none⟩)] w fun e w' => ∃ A, e = .returned (.slice A (limbs x.natAbs).length (limbs x.natAbs).length) ∧ Lim w' w'.heap.size A (limbs x.natAbs) ∧ Below w.heap.size w w' := by
  have hxi := hx
  obtain ⟨sx, Ax, lx, cx, Sxx, Lxx, hbx, hcx, limx⟩ := hx.open
  have r0x := Later.sign hbx
  have r1x := Later.size hbx
  have k0x := cell0_int hbx
  have k1x := cell1_int hbx
  have Sx := Lib.hid Sxx
  have Ex := And.intro (Lib.hid hl) (Lib.hid (And.intro Lxx hcx))
  clear hl Sxx Lxx hcx hbx
  obtain ⟨xs, hxs0⟩ : ∃ xs, limbs x.natAbs = xs := ⟨_, rfl⟩
  rw [hxs0] at limx Ex ⊢
  have HXS := Lib.hid hxs0
  have h1 := limx
  clear hxs0 r0x k0x
  have hlen : lx = xs.length := Ex.2.out.1
  subst hlen
  have k1 : ∀ wr, Below w.heap.size w wr → wr.cell? ⟨gx, 1, none⟩ = some (.slice Ax xs.length cx) := fun wr h => r1x ⟨wr, Ext.of_below h⟩
  have K1 := Lib.hid k1
  clear r1x k1
  have hmk := make_words xs.length (by have := Ex.1.out; omega)
  have hlI : (xs.length : Int) ≤ 1099511627776 := by have := Ex.1.out; omega
  have ka := K1.out _ ((Below.refl _ w).alloc (Nat.le_refl _) (.cells (madeCells #[.int .u64 0] xs.length) 111))
  go_enter Try.func106, Try.ntmps106
  go_wp2_with fail
  go_loopw [17] (fun t17 wr => ∃ (k : Nat) (os : List Nat), k ≤ xs.length ∧ t17 = .int .i64 (k : Int) ∧ os.length = xs.length ∧ os.take k = xs.take k ∧ Row wr w.heap.size os ∧ Below w.heap.size w wr) (fun t17 _ => xs.length - (intOf t17).toNat)
  case atStart =>
    exact ⟨0, List.replicate xs.length 0, by omega, rfl, by simp, by simp, Row.made _ _, (Below.refl _ _).alloc (Nat.le_refl _) _⟩
  case round =>
    obtain ⟨k, os, hk, rfl, ho, htk, hrow, hbel⟩ := hrel
    have HT := Lib.hid htk
    have HO := Lib.hid ho
    clear htk ho
    by_cases hlt : k < xs.length
    · obtain ⟨ad, rfl, hb, hcell⟩ := (h1.below hbel).at_ hlt
      have HS := Lib.hid (take_copy HO.out hlt HT.out)
      obtain ⟨x, hx⟩ : ∃ x, xs.getD k 0 = x := ⟨_, rfl⟩
      have hxs : x < W64 := hx ▸ h1.small.getD k
      rw [hx] at hcell HS
      have hcg := hrow.cell (k := k) (by rw [HO.out]; omega)
      have hfg := hrow.free k
      have hset := hrow.set (k := k) (x := x) (by rw [HO.out]; omega) hxs
      have hbel' := hbel.setCell (p := ⟨w.heap.size, k, none⟩) (Nat.le_refl _) (.int .u64 (x : Int))
      have HLn := Lib.hid (show (os.set k x).length = xs.length by rw [List.length_set, HO.out])
      clear hx hxs
      go_wp2_with fail
      exact ⟨⟨k + 1, os.set k x, by omega, by go_num, HLn.out, HS.out, hset, hbel'⟩, by simp [intOf]; omega⟩
    · obtain rfl : k = xs.length := by omega
      have hos : os = xs := by
        have h2 := HT.out
        rw [List.take_length] at h2
        rwa [List.take_of_length_le (by rw [HO.out]; omega)] at h2
      subst hos
      go_wp2_with fail
      go_ret
      exact ⟨_, rfl, hrow.lim hrow.lt, hbel⟩
theorem later_cell {w : World} {p : Addr} {v : Value} (h : w.cell? p = some v) (δ : Later Nix w) : δ.world.cell? p = some v := by
  rw [cell_of_block (w := w) (δ.ext.block _ (World.block_lt_of_cell? w p h) (fun h => h))]; exact h
end Go.Proofs.Ytmnfokapdipcdaa
