import Derived.Test.YtmnfokapdipcdaaPoly
import Derived.Test.YtmnfokapdipcdaaLaw1
/- The package series: value. Rows of whole numbers behind pointers. -/
namespace Go.Proofs.Ytmnfokapdipcdaa
open Go.RowKit Go.Deep
def ptr (g : Nat) : Value := .pointer (some ⟨g, 0, none⟩)
/-- Pointers to these blocks, then nil ones, n in all. -/
def ptrs (gs : List Nat) (n : Nat) : Array Value := (gs.map ptr ++ List.replicate (n - gs.length) (Value.pointer none)).toArray
theorem made_ptrs (n : Nat) : madeCells #[.pointer none] n = ptrs [] n := by
  apply Array.toList_inj.1
  rw [toList_madeCells_one]; simp [ptrs]
theorem ptrs_size {gs : List Nat} {n : Nat} (h : gs.length ≤ n) : (ptrs gs n).size = n := by simp [ptrs]; omega
theorem ptrs_set {gs : List Nat} {n : Nat} (h : gs.length < n) (g : Nat) : (ptrs gs n).setIfInBounds gs.length (ptr g) = ptrs (gs ++ [g]) n := by
  unfold ptrs
  rw [List.setIfInBounds_toArray]
  congr 1
  obtain ⟨m, hm⟩ : ∃ m, n - gs.length = m + 1 := ⟨n - gs.length - 1, by omega⟩
  rw [hm, List.set_append_right _ _ (by simp)]
  simp [List.replicate_succ, show n - (gs.length + 1) = m by omega]
theorem ptrs_get {gs : List Nat} {n i : Nat} (h : i < gs.length) : (ptrs gs n)[i]? = some (ptr (gs.getD i 0)) := by
  simp [ptrs, List.getElem?_append_left, h]
/-- The number that is handed in at a place. -/
def zAt (xs : List Raw) (k : Nat) : Int := signed (xs.getD k (false, [])).1 (val (xs.getD k (false, [])).2)

/-- Block G holds pointers to the blocks gs, of which each holds its number; all new since 'base'. -/
structure Ints (w : World) (base G : Nat) (gs : List Nat) (n : Nat) (z : Nat → Int) : Prop where
  row : w.heap[G]? = some (.cells (ptrs gs n) 75 (0, 0))
  len : gs.length ≤ n
  nodup : gs.Nodup
  low : base ≤ G ∧ ∀ g ∈ gs, base ≤ g ∧ g ≠ G
  at_ : ∀ i, i < gs.length → IntAt w (gs.getD i 0) (z i)
theorem Ints.noNum {w : World} {base G : Nat} {gs : List Nat} {n : Nat} {z : Nat → Int} (h : Ints w base G gs n z) : NoNum w G := by
  intro p hp m
  obtain ⟨pb, off, sp⟩ := p
  obtain rfl : pb = G := hp
  unfold World.cell?
  simp only [h.row]
  split
  · simp
  · unfold ptrs
    rw [List.getElem?_toArray, List.getElem?_append]
    split
    · rw [List.getElem?_map]; cases gs[off]? <;> simp [ptr]
    · rw [List.getElem?_replicate]; split <;> simp
theorem Ints.cell {w : World} {base G : Nat} {gs : List Nat} {n : Nat} {z : Nat → Int} (h : Ints w base G gs n z) {i : Nat} (hi : i < gs.length) : w.cell? ⟨G, i, none⟩ = some (ptr (gs.getD i 0)) := by
  unfold World.cell?
  simp [h.row, ptrs_get hi]
theorem Ints.lt {w : World} {base G : Nat} {gs : List Nat} {n : Nat} {z : Nat → Int} (h : Ints w base G gs n z) : G < w.heap.size := (Array.getElem?_eq_some_iff.1 h.row).1
/-- One of them was written: the others stay. -/
theorem Ints.write {w w' : World} {base G : Nat} {gs : List Nat} {n : Nat} {z : Nat → Int} (h : Ints w base G gs n z) {k : Nat} (hk : k < gs.length) (e : Ext (· = gs.getD k 0) w w') {v : Int} (hv : IntAt w' (gs.getD k 0) v) :
    Ints w' base G gs n (fun i => if i = k then v else z i) := by
  have hmem : gs.getD k 0 ∈ gs := by
    have e1 : gs.getD k 0 = gs[k] := by simp [hk]
    rw [e1]; exact List.getElem_mem hk
  refine ⟨by rw [e.block G h.lt (fun e => (h.low.2 _ hmem).2 e.symm)]; exact h.row, h.len, h.nodup, h.low, fun i hi => ?_⟩
  by_cases hik : i = k
  · subst hik; simpa using hv
  · simp only [if_neg hik]
    refine (h.at_ i hi).ext e (fun he => ?_)
    have e1 : gs.getD i 0 = gs[i] := by simp [hi]
    have e2 : gs.getD k 0 = gs[k] := by simp [hk]
    rw [e1, e2] at he
    have hp := List.pairwise_iff_getElem.1 h.nodup
    rcases Nat.lt_or_gt_of_ne hik with hlt | hlt
    · exact hp i k hi hk hlt he
    · exact hp k i hk hi hlt he.symm
theorem Ints.below {w w' : World} {base G : Nat} {gs : List Nat} {n : Nat} {z : Nat → Int} (h : Ints w base G gs n z) (e : Below w.heap.size w w') : Ints w' base G gs n z :=
  ⟨by rw [e.block G h.lt]; exact h.row, h.len, h.nodup, h.low, fun i hi => (h.at_ i hi).below e⟩
/-- One more is laid in. -/
theorem Ints.push {w : World} {base G : Nat} {gs : List Nat} {n : Nat} {z : Nat → Int} (h : Ints w base G gs n z) (hn : gs.length < n) {g : Nat} {v : Int} (hg : IntAt w g v) (hb : base ≤ g) (hnew : g ∉ gs) (hne : g ≠ G) :
    Ints (w.setCell ⟨G, gs.length, none⟩ (ptr g)) base G (gs ++ [g]) n (fun i => if i = gs.length then v else z i) := by
  have hext : Ext (· = G) w (w.setCell ⟨G, gs.length, none⟩ (ptr g)) :=
    ⟨rfl, rfl, rfl, by simp, fun i _ hi => Below.heap_setCell _ _ _ i (by simpa using hi), fun i hi _ => by subst hi; exact h.noNum⟩
  refine ⟨?_, by simp; omega, ?_, ⟨h.low.1, fun x hx => ?_⟩, fun i hi => ?_⟩
  · simp [World.setCell, Array.getElem?_modify, h.row, ptrs_set hn]
  · rw [List.nodup_append]
    exact ⟨h.nodup, by simp, fun a ha b hb e => by simp at hb; subst hb; subst e; exact hnew ha⟩
  · rcases List.mem_append.1 hx with hx | hx
    · exact h.low.2 x hx
    · simp at hx; subst hx; exact ⟨hb, hne⟩
  · by_cases hik : i = gs.length
    · subst hik
      simp only [↓reduceIte]
      rw [show (gs ++ [g]).getD gs.length 0 = g by simp]
      exact hg.ext hext hne
    · have hi' : i < gs.length := by simp at hi; omega
      simp only [if_neg hik]
      rw [show (gs ++ [g]).getD i 0 = gs.getD i 0 by simp [List.getElem?_append_left, hi']]
      refine (h.at_ i hi').ext hext (h.low.2 _ ?_).2
      have e1 : gs.getD i 0 = gs[i] := by simp [hi']
      rw [e1]; exact List.getElem_mem hi'

theorem getD_mem {xs : List Raw} {k : Nat} (hk : k < xs.length) : xs.getD k (false, []) ∈ xs := by
  rw [List.getD_eq_getElem?_getD, List.getElem?_eq_getElem hk]
  exact List.getElem_mem hk
theorem Ints.congr {w : World} {base G : Nat} {gs : List Nat} {n : Nat} {z z' : Nat → Int} (h : Ints w base G gs n z) (e : ∀ i, i < gs.length → z i = z' i) : Ints w base G gs n z' :=
  ⟨h.row, h.len, h.nodup, h.low, fun i hi => by rw [← e i hi]; exact h.at_ i hi⟩
theorem Ints.free {w : World} {base G : Nat} {gs : List Nat} {n : Nat} {z : Nat → Int} (h : Ints w base G gs n z) (k : Nat) : w.frozen? ⟨G, k, none⟩ = false := by
  simp [World.frozen?, h.row]
theorem Ints.empty {w : World} {base G : Nat} {gs : List Nat} {n : Nat} {z : Nat → Int} (h : Ints w base G gs n z) (hn : gs.length < n) : w.cell? ⟨G, gs.length, none⟩ = some (.pointer none) := by
  have e : (ptrs gs n)[gs.length]? = some (.pointer none) := by
    unfold ptrs
    rw [List.getElem?_toArray, List.getElem?_append_right (by simp), List.getElem?_replicate, if_pos (by simp; omega)]
  unfold World.cell?
  simp [h.row, e]
theorem Ints.old {w : World} {base G : Nat} {gs : List Nat} {n : Nat} {z : Nat → Int} (h : Ints w base G gs n z) {g : Nat} (hg : g ∈ gs) : g < w.heap.size := by
  obtain ⟨i, hi, rfl⟩ := List.getElem_of_mem hg
  have h1 := (h.at_ i hi).lt
  rwa [show gs.getD i 0 = gs[i] by simp [hi]] at h1
theorem info_ptr : (Try.prog.info? 75).map (fun i => (i.zero, i.size, i.bytes)) = some (some (.pointer none), 1, 8) := by kernel_rfl
theorem make_ptrs (n : Nat) (h : n ≤ 35184372088832) : ∀ W : World, (Instr.makeSlice 66 (.int .i64 (n : Int)) (.int .i64 (n : Int))).run Try.prog W = .ok (.slice (some ⟨W.heap.size, 0, none⟩) n n) (W.alloc (.cells (ptrs [] n) 75)) := fun W => by
  rw [← made_ptrs]
  exact run_make_row' (P := Try.prog) 66 75 (.pointer none) 8 Try.underlying66 info_ptr rfl .i64 .i64 n (by omega) (by omega) W
set_option maxRecDepth 100000 in
theorem series_value (A : Option Addr) (l c n : Nat) (xs : List Raw) (w : World) (h1 : Poly w w.heap.size A xs) (hl : l = xs.length) (hn : n ≤ 4096) (hsm : ∀ x ∈ xs, x.2.length ≤ 4096) :
    Calls Try.prog 54 #[.slice A l c, .int .i64 (n : Int)] w fun e w' => ∃ gs, e = .returned (.slice (some ⟨w.heap.size, 0, none⟩) n n) ∧ gs.length = n ∧ Ints w' w.heap.size w.heap.size gs n (zAt xs) ∧ Below w.heap.size w w' := by
  have hmk := make_ptrs n (by omega)
  have hnI : (n : Int) ≤ 4096 := by omega
  have HL := Lib.hid hl
  clear hl hn
  go_enter Try.func54, Try.ntmps54
  go_wp2_with fail
  go_loopw [12] (fun t12 wr => ∃ (k : Nat) (gs : List Nat), k ≤ n ∧ t12 = .int .i64 (k : Int) ∧ gs.length = k ∧ Ints wr w.heap.size w.heap.size gs n (zAt xs) ∧ Below w.heap.size w wr) (fun t12 _ => n - (intOf t12).toNat)
  case atStart =>
    exact ⟨0, [], by omega, rfl, rfl, ⟨heap_alloc_new w _, by simp, by simp, ⟨Nat.le_refl _, by simp⟩, by simp⟩, (Below.refl _ _).alloc (Nat.le_refl _) _⟩
  case round =>
    obtain ⟨wo, hwo⟩ : ∃ wo : World, wo = wr := ⟨_, rfl⟩
    subst hwo
    obtain ⟨k, gs, hk, rfl, hgs, hints, hbel⟩ := hrel
    by_cases hlt : k < n
    · have hI1 : Ints (wo.alloc (.cells #[.bool false, .slice none 0 0] 84)) w.heap.size w.heap.size gs n (zAt xs) := hints.below ((Below.refl _ wo).alloc (Nat.le_refl _) _)
      have hG := hints.lt
      have hcG := hI1.empty (by omega)
      rw [hgs] at hcG
      have hfG := hI1.free k
      have hI2 := hI1.push (by omega) (IntAt.fresh wo) (by omega) (fun hm => by have := hints.old hm; omega) (by omega)
      rw [hgs] at hI2
      have hbel2 : Below w.heap.size w ((wo.alloc (.cells #[.bool false, .slice none 0 0] 84)).setCell ⟨w.heap.size, k, none⟩ (ptr wo.heap.size)) := (hbel.alloc hbel.size _).setCell (Nat.le_refl _) _
      have HGS := Lib.hid hgs
      clear hints hI1 hbel hgs
      unfold ptr at hI2 hbel2
      rw [World.setCell_alloc_past (hn := hG)] at hI2 hbel2
      by_cases hkl : k < l
      · have HK := Lib.hid (show k < xs.length by rw [← HL.out]; exact hkl)
        obtain ⟨ad, Am, lm, cm, rfl, hb, hc0, hc1, hlm, hcm, hlim⟩ := (h1.below hbel2).at_ HK.out
        obtain ⟨⟨b, ms⟩, hx⟩ : ∃ x, xs.getD k (false, []) = x := ⟨_, rfl⟩
        have hms : ms.length ≤ 4096 := by
          have h := hsm _ (getD_mem HK.out)
          rw [hx] at h
          exact h
        rw [hx] at hc0 hlm hlim
        have HX := Lib.hid hx
        simp only at hc0 hlm
        subst hlm
        have hmkw := make_words ms.length (by omega)
        clear hx
        go_wp2_with fail
        generalize hW2 : (wo.setCell ⟨w.heap.size, k, none⟩ (.pointer (some ⟨wo.heap.size, 0, none⟩))).alloc (.cells #[.bool false, .slice none 0 0] 84) = W2 at hI2 hbel2 hc0 hc1 hlim hcG hfG ⊢
        have hs2 : W2.heap.size = wo.heap.size + 1 := by rw [← hW2]; simp
        clear hcG hfG
        have HC0 := Lib.hid hc0
        have HC1 := Lib.hid hc1
        have hmI : (ms.length : Int) ≤ 4096 := by omega
        clear hc0 hc1 hW2 hmkw
        go_loopw [32] (fun t32 wi => ∃ (q : Nat) (os : List Nat), q ≤ ms.length ∧ t32 = .int .i64 (q : Int) ∧ os.length = ms.length ∧ os.take q = ms.take q ∧ Row wi (wo.heap.size + 1) os ∧ Below W2.heap.size W2 wi) (fun t32 _ => ms.length - (intOf t32).toNat)
        case atStart =>
          exact ⟨0, List.replicate ms.length 0, by omega, rfl, by simp, by simp, by rw [← hs2]; exact Row.made _ _, (Below.refl _ _).alloc (Nat.le_refl _) _⟩
        case round =>
          obtain ⟨q, os, hq, rfl, ho, htk, hrow, hbi⟩ := hrel
          have HT := Lib.hid htk
          have HO := Lib.hid ho
          clear htk ho
          have hsz2 := hbel2.size
          have hc1 := (hbi.cell (p := ⟨(ad.add (k * 2)).block, (ad.add (k * 2)).off + 1, none⟩) (by show (ad.add (k * 2)).block < _; rw [block_of_add]; omega)).trans HC1.out
          by_cases hqt : q < ms.length
          · obtain ⟨ad3, rfl, hb3, hcell⟩ := (hlim.below (hbi.mono hsz2)).at_ hqt
            have HS := Lib.hid (take_copy HO.out hqt HT.out)
            obtain ⟨x, hx⟩ : ∃ x, ms.getD q 0 = x := ⟨_, rfl⟩
            have hxs : x < W64 := hx ▸ hlim.small.getD q
            rw [hx] at hcell HS
            have hcg := hrow.cell (k := q) (by rw [HO.out]; omega)
            have hfg := hrow.free q
            have hset := hrow.set (k := q) (x := x) (by rw [HO.out]; omega) hxs
            have hbi' := hbi.setCell (p := ⟨wo.heap.size + 1, q, none⟩) (by rw [hs2]; exact Nat.le_refl _) (.int .u64 (x : Int))
            have HLn := Lib.hid (show (os.set q x).length = ms.length by rw [List.length_set, HO.out])
            clear hx hxs
            go_wp2_with fail
            exact ⟨⟨q + 1, os.set q x, by omega, by go_num, HLn.out, HS.out, hset, hbi'⟩, by simp [intOf]; omega⟩
          · obtain rfl : q = ms.length := by omega
            have hos : os = ms := by
              have h2 := HT.out
              rw [List.take_length] at h2
              rwa [List.take_of_length_le (by rw [HO.out]; omega)] at h2
            subst hos
            have hIi := hI2.below hbi
            have hgk : (gs ++ [wo.heap.size]).getD k 0 = wo.heap.size := by rw [← HGS.out]; simp
            have HGK := Lib.hid hgk
            have hklen : k < (gs ++ [wo.heap.size]).length := by simp [HGS.out]
            have hcp := hIi.cell hklen
            rw [hgk] at hcp
            unfold ptr at hcp
            have hat := hIi.at_ k hklen
            rw [hgk] at hat
            simp only [↓reduceIte] at hat
            have hbw : Below w.heap.size w wr := hbel2.trans (hbi.mono hsz2)
            have hG2 : w.heap.size ≤ wo.heap.size := by omega
            have hadb : (ad.add (k * 2)).block < w.heap.size := by rw [block_of_add]; exact hb
            have HV := Lib.hid (show zAt xs k = signed b (val os) by unfold zAt; rw [HX.out])
            clear hgk
            go_wp2_with fail
            refine (int_setBits wo.heap.size 0 _ os.length os wr hat (hrow.lim hrow.lt) (by omega)).mono ?_
            rintro e w2 ⟨rfl, hz, he2⟩
            have hI3 := hIi.write hklen (v := (val os : Nat)) (by rw [HGK.out]; exact he2) (by rw [HGK.out]; exact hz)
            have hb2 : Below w.heap.size w w2 := (Ext.hidden (Ext.of_below hbw) he2 hG2).below
            have hc02 : w2.cell? (ad.add (k * 2)) = some (.bool b) := (hb2.cell hadb).trans ((hbel2.cell hadb).symm.trans HC0.out)
            have hcp2 := hI3.cell hklen
            rw [HGK.out] at hcp2
            unfold ptr at hcp2
            clear hc1 hcp hrow hbi
            cases b with
            | false =>
              go_wp2_with fail
              refine ⟨⟨k + 1, gs ++ [wo.heap.size], by omega, by go_num, by simp [HGS.out], hI3.congr (fun i hi => ?_), hb2⟩, by simp [intOf]; omega⟩
              by_cases hik : i = k
              · subst hik; simp [HV.out, signed]
              · simp [hik]
            | true =>
              have hrr : ∀ δ : Later Nix w2, δ.world.cell? ⟨w.heap.size, k, none⟩ = some (.pointer (some ⟨wo.heap.size, 0, none⟩)) := fun δ => by
                rw [cell_of_block (w := w2) (δ.ext.block _ (by have := hI3.lt; exact this) (fun h => h))]; exact hcp2
              have hlen : (limbs (val os)).length ≤ 1099511627776 := Nat.le_trans (limbs_val_le hlim.small) (by omega)
              have HLEN := Lib.hid hlen
              clear hlen
              go_wp2_with fail
              refine wp_region_stages (fun w' => ∃ δ : Later Nix w2, w' = δ.world) [(false, 0), (false, 1), (false, 2), (false, 3), (false, 4), (false, 5), (false, 6), (false, 7)] 8 [.reads [_, _, _, _, _, _, _, _]] [_] (by kernel_rfl) (by kernel_rfl) rfl rfl ?_ ?_
              · exact ⟨⟨_, nix_drawn w2⟩, rfl⟩
              refine wpStages_reads ?_
              repeat (go_big_quiet_step (fail))
              refine wpQuiet_nil ?_
              refine wpStages_nil ?_
              go_wp2_with fail
              refine (int_neg wo.heap.size wo.heap.size (val os : Nat) (val os : Nat) (w2.drewN 1) (hz.drewN 1) (hz.drewN 1) (by rw [Int.natAbs_natCast]; exact HLEN.out)).mono ?_
              rintro e w3 ⟨rfl, hz3, he3⟩
              have hI4 := (hI3.below (below_drewN (Below.refl _ w2) 1)).write hklen (v := -((val os : Nat) : Int)) (by rw [HGK.out]; exact he3) (by rw [HGK.out]; exact hz3)
              have hb3 : Below w.heap.size w w3 := (Ext.hidden (Ext.of_below (below_drewN hb2 1)) he3 hG2).below
              clear hrr
              go_wp2_with fail
              refine ⟨⟨k + 1, gs ++ [wo.heap.size], by omega, by go_num, by simp [HGS.out], hI4.congr (fun i hi => ?_), hb3⟩, by simp [intOf]; omega⟩
              by_cases hik : i = k
              · subst hik; simp [HV.out, signed]
              · simp [hik]
      · have HZ := Lib.hid (show zAt xs k = 0 by
          unfold zAt
          rw [show xs.getD k (false, []) = (false, []) by simp [show xs.length ≤ k by rw [← HL.out]; omega]]; simp [signed])
        go_wp2_with fail
        refine ⟨⟨k + 1, gs ++ [wo.heap.size], by omega, by go_num, by simp [HGS.out], hI2.congr (fun i hi => ?_), hbel2⟩, by simp [intOf]; omega⟩
        by_cases hik : i = k
        · subst hik; simp [HZ.out]
        · simp [hik]
    · obtain rfl : k = n := by omega
      go_wp2_with fail
      go_ret
      exact ⟨gs, rfl, hgs, hints, hbel⟩
end Go.Proofs.Ytmnfokapdipcdaa
/- The package series: over. -/
namespace Go.Proofs.Ytmnfokapdipcdaa
open Go.RowKit Go.Deep
theorem Ints.size_at {w : World} {base G : Nat} {gs : List Nat} {n : Nat} {z : Nat → Int} (h : Ints w base G gs n z) {i : Nat} (hi : i < gs.length) : gs.getD i 0 < w.heap.size := (h.at_ i hi).lt
theorem Ints.since {w w' : World} {base G : Nat} {gs : List Nat} {n : Nat} {z : Nat → Int} (h : Ints w base G gs n z) (e : Below w.heap.size w w') : Ints w' base G gs n z := h.below e
theorem le_pow_of {M : Nat} (hM : 0 < M) (n : Nat) : M ≤ (4 * M) ^ (n + 1) := by
  have h : 0 < (4 * M) ^ n := Nat.pow_pos (by omega)
  rw [Nat.pow_succ]
  exact Nat.le_trans (by omega) (Nat.le_mul_of_pos_left (4 * M) h)
theorem len_of_pow {M n x L : Nat} (hM : 0 < M) (h : x ≤ M) (hl : lc ((4 * M) ^ (n + 1)) ≤ L) : (limbs x).length ≤ L := by
  have h1 : lc x ≤ lc ((4 * M) ^ (n + 1)) := lc_mono (Nat.le_trans h (le_pow_of hM n))
  exact Nat.le_trans h1 hl
theorem sign_ge {x : Int} (h : ¬ x < 0) : 0 ≤ x.sign := by
  rcases Int.lt_or_le 0 x with h1 | h1
  · rw [Int.sign_eq_one_of_pos h1]; omega
  · rw [show x = 0 by omega]; simp
theorem len_of_pow2 {M n x e L : Nat} (hM : 0 < M) (he : e ≤ n + 1) (h : x ≤ (4 * M) ^ e) (hl : lc ((4 * M) ^ (n + 1)) ≤ L) : (limbs x).length ≤ L := by
  have h1 : lc x ≤ lc ((4 * M) ^ (n + 1)) := lc_mono (Nat.le_trans h (Nat.pow_le_pow_right (by omega) he))
  exact Nat.le_trans h1 hl
theorem Ints.keep {w w' : World} {base G P : Nat} {gs : List Nat} {n : Nat} {z : Nat → Int} (h : Ints w base G gs n z) (e : Ext (· = P) w w') (hG : G ≠ P) (hn : P ∉ gs) : Ints w' base G gs n z :=
  ⟨by rw [e.block G h.lt hG]; exact h.row, h.len, h.nodup, h.low, fun i hi => (h.at_ i hi).ext e (fun he => hn (by
    have e1 : gs.getD i 0 = gs[i] := by simp [hi]
    rw [← he, e1]; exact List.getElem_mem hi))⟩
set_option maxHeartbeats 400000 in
set_option maxRecDepth 100000 in
theorem series_over (Ga Gb ba bb n M : Nat) (gsa gsb : List Nat) (a b : Nat → Int) (w : World) (hA : Ints w ba Ga gsa n a) (hla : gsa.length = n) (hB : Ints w bb Gb gsb n b) (hlb : gsb.length = n) (hn : n ≤ 4096)
    (hM : 0 < M) (hMl : lc ((4 * M) ^ (n + 1)) ≤ 134217728) (ha : ∀ k, k < n → (a k).natAbs ≤ M) (hb : ∀ k, k < n → (b k).natAbs ≤ M) :
    Calls Try.prog 53 #[.slice (some ⟨Ga, 0, none⟩) n n, .slice (some ⟨Gb, 0, none⟩) n n] w fun e w' => ∃ gs, e = .returned (.slice (some ⟨w.heap.size, 0, none⟩) n n) ∧ gs.length = n ∧ Ints w' w.heap.size w.heap.size gs n (overZ a b) ∧ Below w.heap.size w w' := by
  have hmk := make_ptrs n (by omega)
  have hnI : (n : Int) ≤ 4096 := by omega
  have HMl := Lib.hid hMl
  clear hMl hn
  go_enter Try.func53, Try.ntmps53
  go_wp2_with fail
  go_loopw [15] (fun t15 wr => ∃ (i : Nat) (gs : List Nat) (pv : Int), i ≤ n ∧ t15 = .int .i64 (i : Int) ∧ gs.length = i ∧ Ints wr w.heap.size w.heap.size gs n (overZ a b) ∧ IntAt wr (w.heap.size + 1) pv ∧ (w.heap.size + 1) ∉ gs ∧ Below w.heap.size w wr) (fun t15 _ => n - (intOf t15).toNat)
  case atStart =>
    have e0 : Ints (w.alloc (.cells (ptrs [] n) 75)) w.heap.size w.heap.size [] n (overZ a b) := ⟨heap_alloc_new w _, by simp, by simp, ⟨Nat.le_refl _, by simp⟩, by simp⟩
    have e1 := IntAt.fresh (w.alloc (.cells (ptrs [] n) 75))
    rw [show (w.alloc (.cells (ptrs [] n) 75)).heap.size = w.heap.size + 1 by simp] at e1
    exact ⟨0, [], 0, by omega, rfl, rfl, e0.below ((Below.refl _ _).alloc (Nat.le_refl _) _), e1, by simp, ((Below.refl _ w).alloc (Nat.le_refl _) _).alloc (by simp) _⟩
  case round =>
    obtain ⟨wo, hwo⟩ : ∃ wo : World, wo = wr := ⟨_, rfl⟩
    subst hwo
    obtain ⟨i, gs, pv, hi, rfl, hgs, hints, hpart, hpn, hbel⟩ := hrel
    by_cases hlt : i < n
    · have hA1 := hA.below (hbel.alloc hbel.size (.cells #[.bool false, .slice none 0 0] 84))
      have hca := hA1.cell (i := i) (by omega)
      have hai := hA1.at_ i (by omega)
      unfold ptr at hca
      obtain ⟨ga, hga⟩ : ∃ ga, gsa.getD i 0 = ga := ⟨_, rfl⟩
      rw [hga] at hca hai
      clear hga
      have HAl := Lib.hid (len_of_pow hM (ha i hlt) HMl.out)
      have HGS := Lib.hid hgs
      clear hgs
      go_wp2_with fail
      refine (int_set wo.heap.size ga 0 (a i) _ (IntAt.fresh wo) hai (by have := HAl.out; omega)).mono ?_
      rintro e w1 ⟨rfl, hz, he1⟩
      have hG := hints.lt
      have he : Ext Nix wo w1 := (Ext.alloc wo _).hidden he1 (Nat.le_refl _)
      have hI1 := hints.below he.below
      have hcG := hI1.empty (by rw [HGS.out]; exact hlt)
      rw [HGS.out] at hcG
      have hfG := hI1.free i
      have hI2 := hI1.push (by rw [HGS.out]; exact hlt) hz (by omega) (fun hm => by have := hints.old hm; omega) (by omega)
      rw [HGS.out] at hI2
      have hbel1 : Below w.heap.size w w1 := hbel.trans (he.below.mono hbel.size)
      have hbel2 := hbel1.setCell (p := ⟨w.heap.size, i, none⟩) (Nat.le_refl _) (ptr wo.heap.size)
      unfold ptr at hI2 hbel2
      clear hca hai hA1
      go_wp2_with fail
      have hsz : wo.heap.size < (w1.setCell ⟨w.heap.size, i, none⟩ (.pointer (some ⟨wo.heap.size, 0, none⟩))).heap.size := by simpa using hz.lt
      have hpart2 : IntAt (w1.setCell ⟨w.heap.size, i, none⟩ (.pointer (some ⟨wo.heap.size, 0, none⟩))) (w.heap.size + 1) pv := by
        have hext : Ext (· = w.heap.size) w1 (w1.setCell ⟨w.heap.size, i, none⟩ (.pointer (some ⟨wo.heap.size, 0, none⟩))) :=
          ⟨rfl, rfl, rfl, by simp, fun j _ hj => Below.heap_setCell _ _ _ j (by simpa using hj), fun j hj _ => by subst hj; exact hI1.noNum⟩
        exact (hpart.ext he (fun h => h)).ext hext (by omega)
      have hne : w.heap.size + 1 ≠ wo.heap.size := by have := hpart.lt; omega
      generalize hW2 : w1.setCell ⟨w.heap.size, i, none⟩ (.pointer (some ⟨wo.heap.size, 0, none⟩)) = W2 at hI2 hbel2 hsz hpart2 ⊢
      clear hW2 hcG hfG hI1 hz he1 hbel1 he
      have hiI : (i : Int) < (n : Int) := by omega
      go_loopw [8] (fun t8 wi => ∃ (k : Nat) (pv : Int), 1 ≤ k ∧ k ≤ i + 1 ∧ t8 = .int .i64 (k : Int) ∧ Ints wi w.heap.size w.heap.size (gs ++ [wo.heap.size]) n (fun j => if j = i then subs (a i) (overZ a b) b i (k - 1) else overZ a b j) ∧ IntAt wi (w.heap.size + 1) pv ∧ Below w.heap.size w wi) (fun t8 _ => i + 1 - (intOf t8).toNat)
      case atStart => exact ⟨1, pv, by omega, by omega, rfl, hI2, hpart2, hbel2⟩
      case round =>
        obtain ⟨k, pv2, hk1, hki, rfl, hI, hp, hbi⟩ := hrel
        by_cases hle : k ≤ i
        · have hBk := hB.below hbi
          have hcb := hBk.cell (i := k) (by omega)
          have hbat := hBk.at_ k (by omega)
          unfold ptr at hcb
          obtain ⟨gb, hgb⟩ : ∃ gb, gsb.getD k 0 = gb := ⟨_, rfl⟩
          rw [hgb] at hcb hbat
          have HGB := Lib.hid hgb
          clear hgb
          have HBl := Lib.hid (len_of_pow hM (hb k (by omega)) HMl.out)
          have hkI : (k : Int) < (n : Int) := by omega
          go_wp2_with fail
          refine (int_sign gb (b k) wr hbat (by have := HBl.out; omega)).mono ?_
          rintro e w3 ⟨rfl, rfl⟩
          by_cases hb0 : b k = 0
          · rw [hb0]
            have HB0 := Lib.hid hb0
            clear hb0
            go_wp2_with fail
            refine ⟨⟨k + 1, pv2, by omega, by omega, by go_num, hI.congr (fun j _ => ?_), hp, hbi⟩, by simp [intOf]; omega⟩
            by_cases hj : j = i
            · simp only [if_pos hj]
              obtain ⟨t, ht⟩ : ∃ t, k = t + 1 := ⟨k - 1, by omega⟩
              subst ht
              show _ = subs (a i) (overZ a b) b i t - _ * b (t + 1)
              rw [HB0.out]; simp
            · simp only [if_neg hj]
          · have ts : ((b k).sign != 0) = true := by simpa using hb0
            obtain ⟨sg, hsg⟩ : ∃ sg, (b k).sign = sg := ⟨_, rfl⟩
            rw [hsg] at ts ⊢
            clear hb0 hsg
            have hgsl : (gs ++ [wo.heap.size]).length = i + 1 := by simp [HGS.out]
            obtain ⟨d, hd⟩ : ∃ d, i - k = d := ⟨_, rfl⟩
            have ed : (i : Int) - (k : Int) = (d : Int) := by omega
            have hci := hI.cell (i := i) (by omega)
            have hcd := hI.cell (i := d) (by omega)
            have hai := hI.at_ i (by omega)
            have had := hI.at_ d (by omega)
            have egi : (gs ++ [wo.heap.size]).getD i 0 = wo.heap.size := by rw [← HGS.out]; simp
            rw [egi] at hci hai
            obtain ⟨gd, hgd⟩ : ∃ gd, (gs ++ [wo.heap.size]).getD d 0 = gd := ⟨_, rfl⟩
            rw [hgd] at hcd had
            simp only [↓reduceIte] at hai
            rw [if_neg (show ¬ d = i by omega)] at had
            unfold ptr at hci hcd
            have hGlt := hI.lt
            have hGb := hB.lt
            have r1 : ∀ δ : Later (· = w.heap.size + 1) wr, δ.world.cell? ⟨w.heap.size, i, none⟩ = some (.pointer (some ⟨wo.heap.size, 0, none⟩)) := fun δ => by
              rw [cell_of_block (w := wr) (δ.ext.block _ hGlt (by simp))]; exact hci
            have r2 : ∀ δ : Later (· = w.heap.size + 1) wr, δ.world.cell? ⟨w.heap.size, d, none⟩ = some (.pointer (some ⟨gd, 0, none⟩)) := fun δ => by
              rw [cell_of_block (w := wr) (δ.ext.block _ hGlt (by simp))]; exact hcd
            have r3 : ∀ δ : Later (· = w.heap.size + 1) wr, δ.world.cell? ⟨Gb, k, none⟩ = some (.pointer (some ⟨gb, 0, none⟩)) := fun δ => by
              rw [cell_of_block (w := wr) (δ.ext.block _ (hBk.lt) (by show ¬ Gb = _; omega))]; exact hcb
            have hdr : Ext (· = w.heap.size + 1) wr (wr.drewN 1) := (Ext.refl _ wr (fun j hj _ => by subst hj; exact hp.num)).drewN 1
            have hne1 : Nonempty (Later (· = w.heap.size + 1) wr) := ⟨⟨_, hdr⟩⟩
            have hdi : (d : Int) < (n : Int) := by omega
            clear egi hgd hci hcd hcb hgsl
            have HD := Lib.hid hd
            clear hd
            go_wp2_with fail
            refine wp_region_stages (fun w' => ∃ δ : Later (· = w.heap.size + 1) wr, w' = δ.world) [(false, 0), (false, 1), (false, 2), (false, 3), (false, 4), (false, 5), (false, 6), (false, 7), (false, 8), (false, 9), (false, 10), (false, 11), (false, 12), (false, 13), (false, 14), (false, 15), (false, 16), (false, 17), (false, 18), (true, 19)] 20 [.reads [_, _, _, _, _, _, _, _, _, _, _, _, _, _, _, _, _, _, _], .loud _] [_] (by kernel_rfl) (by kernel_rfl) rfl rfl ?_ ?_
            · exact ⟨⟨_, hdr⟩, rfl⟩
            have HOd := Lib.hid (len_of_pow2 hM (show d + 1 ≤ n + 1 by omega) (overZ_small hM ha hb d (by omega)) HMl.out)
            have HSk := Lib.hid (len_of_pow2 hM (show i + 1 ≤ n + 1 by omega) (subs_small (a := a i) (o := overZ a b) (b := b) (i := i) (k := k - 1) hM (ha i (by omega)) (fun j hj => hb j (by omega)) (fun j hj => overZ_small hM ha hb j (by omega)) (by omega)) HMl.out)
            refine wpStages_reads ?_
            repeat (go_big_quiet_step (fail))
            refine wpQuiet_nil ?_
            refine wpStages_loud rfl ?_
            intro K hK
            go_big_op
            refine (int_mul (w.heap.size + 1) gd gb pv2 (overZ a b d) (b k) (wr.drewN 1) (hp.drewN 1) (had.drewN 1) (hbat.drewN 1) (by have := HOd.out; omega) (by have := HBl.out; omega)).mono ?_
            rintro e w4 ⟨rfl, hz4, he4⟩
            have he14 : Ext (· = w.heap.size + 1) wr w4 := (hdr.trans he4).mono (fun j _ hj => hj.elim id id) (fun j hj _ => by subst hj; exact hp.num)
            refine hK _ _ ⟨⟨w4, he14⟩, rfl⟩ ?_
            clear hK K
            refine wpStages_nil ?_
            go_wp2_with fail
            have hmul : (limbs (overZ a b d * b k).natAbs).length ≤ 549755813888 := by
              have h1 := lc_mul (overZ a b d).natAbs (b k).natAbs
              rw [← Int.natAbs_mul] at h1
              have h2 := HOd.out
              have h3 := HBl.out
              unfold lc at h1
              omega
            have hP : w.heap.size + 1 ∉ gs ++ [wo.heap.size] := by
              intro hm
              rcases List.mem_append.1 hm with hm | hm
              · exact hpn hm
              · exact hne (by simpa using hm)
            have hI4 := hI.keep he14 (by omega) hP
            have hai4 := hai.ext he14 (fun h => hne h.symm)
            refine (int_sub wo.heap.size wo.heap.size (w.heap.size + 1) _ _ _ w4 hai4 hai4 hz4 (by have := HSk.out; omega) hmul).mono ?_
            rintro e w5 ⟨rfl, hz5, he5⟩
            have egi2 : (gs ++ [wo.heap.size]).getD i 0 = wo.heap.size := by rw [← HGS.out]; simp
            have hI5 := hI4.write (k := i) (by simp [HGS.out]) (v := subs (a i) (overZ a b) b i (k - 1) - overZ a b d * b k) (by rw [egi2]; exact he5) (by rw [egi2]; exact hz5)
            have hp5 := hz4.ext he5 hne
            have hb4 : Below w.heap.size w w4 := ((Ext.of_below hbi : Ext Nix w wr).hidden he14 (by omega)).below
            have hb5 : Below w.heap.size w w5 := ((Ext.of_below hb4 : Ext Nix w w4).hidden he5 (by omega)).below
            have HSUB := Lib.hid (show subs (a i) (overZ a b) b i k = subs (a i) (overZ a b) b i (k - 1) - overZ a b d * b k by
              obtain ⟨t, ht⟩ : ∃ t, k = t + 1 := ⟨k - 1, by omega⟩
              subst ht
              rw [← HD.out]; rfl)
            clear r1 r2 r3 egi2 hmul
            go_wp2_with fail
            refine ⟨⟨k + 1, _, by omega, by omega, by go_num, hI5.congr (fun j _ => ?_), hp5, hb5⟩, by simp [intOf]; omega⟩
            by_cases hj : j = i
            · simp only [if_pos hj, Nat.add_sub_cancel]
              rw [HSUB.out]
            · simp only [if_neg hj]
        · obtain rfl : k = i + 1 := by omega
          have hBk := hB.below hbi
          have hcb := hBk.cell (i := 0) (by omega)
          have hbat := hBk.at_ 0 (by omega)
          unfold ptr at hcb
          obtain ⟨gb, hgb⟩ : ∃ gb, gsb.getD 0 0 = gb := ⟨_, rfl⟩
          rw [hgb] at hcb hbat
          have HBl := Lib.hid (len_of_pow hM (hb 0 (by omega)) HMl.out)
          have hn0 : (0 : Int) < (n : Int) := by omega
          have hgsl : (gs ++ [wo.heap.size]).length = i + 1 := by simp [HGS.out]
          have egi : (gs ++ [wo.heap.size]).getD i 0 = wo.heap.size := by rw [← HGS.out]; simp
          have hci := hI.cell (i := i) (by omega)
          have hai := hI.at_ i (by omega)
          rw [egi] at hci hai
          unfold ptr at hci
          simp only [↓reduceIte, Nat.add_sub_cancel] at hai
          have HP := Lib.hid (show w.heap.size + 1 ∉ gs ++ [wo.heap.size] by
              intro hm
              rcases List.mem_append.1 hm with hm | hm
              · exact hpn hm
              · exact hne (by simpa using hm))
          have HLEN := Lib.hid hgsl
          have HEG := Lib.hid egi
          clear hgb hgsl egi
          go_wp2_with fail
          refine (int_sign gb (b 0) wr hbat (by have := HBl.out; omega)).mono ?_
          rintro e w3 ⟨rfl, rfl⟩
          by_cases hneg : b 0 < 0
          · rw [Int.sign_eq_neg_one_of_neg hneg]
            have HZ := Lib.hid (show overZ a b i = -(subs (a i) (overZ a b) b i i) by rw [overZ_eq]; simp only [if_pos hneg])
            have hrr : ∀ δ : Later Nix wr, δ.world.cell? ⟨w.heap.size, i, none⟩ = some (.pointer (some ⟨wo.heap.size, 0, none⟩)) := fun δ => by
              rw [cell_of_block (w := wr) (δ.ext.block _ (by have := hI.lt; exact this) (fun h => h))]; exact hci
            have HSk := Lib.hid (len_of_pow2 hM (show i + 1 ≤ n + 1 by omega) (subs_small (a := a i) (o := overZ a b) (b := b) (i := i) (k := i) hM (ha i (by omega)) (fun j hj => hb j (by omega)) (fun j hj => overZ_small hM ha hb j (by omega)) (Nat.le_refl i)) HMl.out)
            clear hneg hcb hci
            go_wp2_with fail
            refine wp_region_stages (fun w' => ∃ δ : Later Nix wr, w' = δ.world) [(false, 0), (false, 1), (false, 2), (false, 3), (false, 4), (false, 5), (false, 6), (false, 7)] 8 [.reads [_, _, _, _, _, _, _, _]] [_] (by kernel_rfl) (by kernel_rfl) rfl rfl ?_ ?_
            · exact ⟨⟨_, nix_drawn wr⟩, rfl⟩
            refine wpStages_reads ?_
            repeat (go_big_quiet_step (fail))
            refine wpQuiet_nil ?_
            refine wpStages_nil ?_
            go_wp2_with fail
            refine (int_neg wo.heap.size wo.heap.size _ _ (wr.drewN 1) (hai.drewN 1) (hai.drewN 1) (by have := HSk.out; omega)).mono ?_
            rintro e w5 ⟨rfl, hz5, he5⟩
            have hI5 := (hI.below (below_drewN (Below.refl _ wr) 1)).write (k := i) (by rw [HLEN.out]; omega) (v := -(subs (a i) (overZ a b) b i i)) (by rw [HEG.out]; exact he5) (by rw [HEG.out]; exact hz5)
            have hp5 := (hp.drewN 1).ext he5 hne
            have hb5 : Below w.heap.size w w5 := (Ext.hidden (Ext.of_below (below_drewN hbi 1)) he5 (by omega)).below
            clear hrr
            go_wp2_with fail
            refine ⟨⟨i + 1, gs ++ [wo.heap.size], pv2, by omega, by go_num, HLEN.out, hI5.congr (fun j _ => ?_), hp5, HP.out, hb5⟩, by simp [intOf]; omega⟩
            by_cases hj : j = i
            · rw [hj, HZ.out]; simp
            · simp only [if_neg hj]
          · have HZ := Lib.hid (show overZ a b i = subs (a i) (overZ a b) b i i by rw [overZ_eq]; simp only [if_neg hneg])
            obtain ⟨sg, hsg⟩ : ∃ sg, (b 0).sign = sg := ⟨_, rfl⟩
            have hs0 : 0 ≤ sg := by rw [← hsg]; exact sign_ge hneg
            rw [hsg]
            clear hneg hsg
            go_wp2_with fail
            refine ⟨⟨i + 1, gs ++ [wo.heap.size], pv2, by omega, by go_num, HLEN.out, hI.congr (fun j _ => ?_), hp, HP.out, hbi⟩, by simp [intOf]; omega⟩
            by_cases hj : j = i
            · rw [hj, HZ.out]; simp
            · simp only [if_neg hj]
    · obtain rfl : i = n := by omega
      go_wp2_with fail
      go_ret
      exact ⟨gs, rfl, hgs, hints, hbel⟩
end Go.Proofs.Ytmnfokapdipcdaa
