import Derived.Test.YtmnfokapdipcdaaSer
/- The package series: value. Rows of whole numbers behind pointers. -/
namespace Go.Proofs.Ytmnfokapdipcdaa
open Go.RowKit Go.Deep
def ptr (g : Nat) : Value := .pointer (some ⟨g, 0, none⟩)
/-- Pointers to these blocks, then nil ones, n in all. -/
def ptrs (gs : List Nat) (n : Nat) : Array Value := (gs.map ptr ++ List.replicate (n - gs.length) (Value.pointer none)).toArray
theorem made_ptrs (n : Nat) : madeCells #[.pointer none] n = ptrs [] n := by
  apply Array.toList_inj.1
  rw [toList_madeCells_one]; simp [ptrs]
theorem ptrs_size {gs : List Nat} {n : Nat} (h : gs.length ≤ n) : (ptrs gs n).size = n := by simp [ptrs]; omega
theorem ptrs_set {gs : List Nat} {n : Nat} (h : gs.length < n) (g : Nat) : (ptrs gs n).setIfInBounds gs.length (ptr g) = ptrs (gs ++ [g]) n := by
  unfold ptrs
  rw [List.setIfInBounds_toArray]
  congr 1
  obtain ⟨m, hm⟩ : ∃ m, n - gs.length = m + 1 := ⟨n - gs.length - 1, by omega⟩
  rw [hm, List.set_append_right _ _ (by simp)]
  simp [List.replicate_succ, show n - (gs.length + 1) = m by omega]
theorem ptrs_get {gs : List Nat} {n i : Nat} (h : i < gs.length) : (ptrs gs n)[i]? = some (ptr (gs.getD i 0)) := by
  simp [ptrs, List.getElem?_append_left, h]
/-- The number that is handed in at a place. -/
def zAt (xs : List Raw) (k : Nat) : Int := signed (xs.getD k (false, [])).1 (val (xs.getD k (false, [])).2)

/-- Block G holds pointers to the blocks gs, of which each holds its number; all new since 'base'. -/
structure Ints (w : World) (base G : Nat) (gs : List Nat) (n : Nat) (z : Nat → Int) : Prop where
  row : w.heap[G]? = some (.cells (ptrs gs n) 75 (0, 0))
  len : gs.length ≤ n
  nodup : gs.Nodup
  low : base ≤ G ∧ ∀ g ∈ gs, base ≤ g ∧ g ≠ G
  at_ : ∀ i, i < gs.length → IntAt w (gs.getD i 0) (z i)
theorem Ints.noNum {w : World} {base G : Nat} {gs : List Nat} {n : Nat} {z : Nat → Int} (h : Ints w base G gs n z) : NoNum w G := by
  intro p hp m
  obtain ⟨pb, off, sp⟩ := p
  obtain rfl : pb = G := hp
  unfold World.cell?
  simp only [h.row]
  split
  · simp
  · unfold ptrs
    rw [List.getElem?_toArray, List.getElem?_append]
    split
    · rw [List.getElem?_map]; cases gs[off]? <;> simp [ptr]
    · rw [List.getElem?_replicate]; split <;> simp
theorem Ints.cell {w : World} {base G : Nat} {gs : List Nat} {n : Nat} {z : Nat → Int} (h : Ints w base G gs n z) {i : Nat} (hi : i < gs.length) : w.cell? ⟨G, i, none⟩ = some (ptr (gs.getD i 0)) := by
  unfold World.cell?
  simp [h.row, ptrs_get hi]
theorem Ints.lt {w : World} {base G : Nat} {gs : List Nat} {n : Nat} {z : Nat → Int} (h : Ints w base G gs n z) : G < w.heap.size := (Array.getElem?_eq_some_iff.1 h.row).1
/-- One of them was written: the others stay. -/
theorem Ints.write {w w' : World} {base G : Nat} {gs : List Nat} {n : Nat} {z : Nat → Int} (h : Ints w base G gs n z) {k : Nat} (hk : k < gs.length) (e : Ext (· = gs.getD k 0) w w') {v : Int} (hv : IntAt w' (gs.getD k 0) v) :
    Ints w' base G gs n (fun i => if i = k then v else z i) := by
  have hmem : gs.getD k 0 ∈ gs := by
    have e1 : gs.getD k 0 = gs[k] := by simp [hk]
    rw [e1]; exact List.getElem_mem hk
  refine ⟨by rw [e.block G h.lt (fun e => (h.low.2 _ hmem).2 e.symm)]; exact h.row, h.len, h.nodup, h.low, fun i hi => ?_⟩
  by_cases hik : i = k
  · subst hik; simpa using hv
  · simp only [if_neg hik]
    refine (h.at_ i hi).ext e (fun he => ?_)
    have e1 : gs.getD i 0 = gs[i] := by simp [hi]
    have e2 : gs.getD k 0 = gs[k] := by simp [hk]
    rw [e1, e2] at he
    have hp := List.pairwise_iff_getElem.1 h.nodup
    rcases Nat.lt_or_gt_of_ne hik with hlt | hlt
    · exact hp i k hi hk hlt he
    · exact hp k i hk hi hlt he.symm
theorem Ints.below {w w' : World} {base G : Nat} {gs : List Nat} {n : Nat} {z : Nat → Int} (h : Ints w base G gs n z) (e : Below w.heap.size w w') : Ints w' base G gs n z :=
  ⟨by rw [e.block G h.lt]; exact h.row, h.len, h.nodup, h.low, fun i hi => (h.at_ i hi).below e⟩
/-- One more is laid in. -/
theorem Ints.push {w : World} {base G : Nat} {gs : List Nat} {n : Nat} {z : Nat → Int} (h : Ints w base G gs n z) (hn : gs.length < n) {g : Nat} {v : Int} (hg : IntAt w g v) (hb : base ≤ g) (hnew : g ∉ gs) (hne : g ≠ G) :
    Ints (w.setCell ⟨G, gs.length, none⟩ (ptr g)) base G (gs ++ [g]) n (fun i => if i = gs.length then v else z i) := by
  have hext : Ext (· = G) w (w.setCell ⟨G, gs.length, none⟩ (ptr g)) :=
    ⟨rfl, rfl, rfl, by simp, fun i _ hi => Below.heap_setCell _ _ _ i (by simpa using hi), fun i hi _ => by subst hi; exact h.noNum⟩
  refine ⟨?_, by simp; omega, ?_, ⟨h.low.1, fun x hx => ?_⟩, fun i hi => ?_⟩
  · simp [World.setCell, Array.getElem?_modify, h.row, ptrs_set hn]
  · rw [List.nodup_append]
    exact ⟨h.nodup, by simp, fun a ha b hb e => by simp at hb; subst hb; subst e; exact hnew ha⟩
  · rcases List.mem_append.1 hx with hx | hx
    · exact h.low.2 x hx
    · simp at hx; subst hx; exact ⟨hb, hne⟩
  · by_cases hik : i = gs.length
    · subst hik
      simp only [↓reduceIte]
      rw [show (gs ++ [g]).getD gs.length 0 = g by simp]
      exact hg.ext hext hne
    · have hi' : i < gs.length := by simp at hi; omega
      simp only [if_neg hik]
      rw [show (gs ++ [g]).getD i 0 = gs.getD i 0 by simp [List.getElem?_append_left, hi']]
      refine (h.at_ i hi').ext hext (h.low.2 _ ?_).2
      have e1 : gs.getD i 0 = gs[i] := by simp [hi']
      rw [e1]; exact List.getElem_mem hi'

theorem getD_mem {xs : List Raw} {k : Nat} (hk : k < xs.length) : xs.getD k (false, []) ∈ xs := by
  rw [List.getD_eq_getElem?_getD, List.getElem?_eq_getElem hk]
  exact List.getElem_mem hk
theorem Ints.congr {w : World} {base G : Nat} {gs : List Nat} {n : Nat} {z z' : Nat → Int} (h : Ints w base G gs n z) (e : ∀ i, i < gs.length → z i = z' i) : Ints w base G gs n z' :=
  ⟨h.row, h.len, h.nodup, h.low, fun i hi => by rw [← e i hi]; exact h.at_ i hi⟩
theorem Ints.free {w : World} {base G : Nat} {gs : List Nat} {n : Nat} {z : Nat → Int} (h : Ints w base G gs n z) (k : Nat) : w.frozen? ⟨G, k, none⟩ = false := by
  simp [World.frozen?, h.row]
theorem Ints.empty {w : World} {base G : Nat} {gs : List Nat} {n : Nat} {z : Nat → Int} (h : Ints w base G gs n z) (hn : gs.length < n) : w.cell? ⟨G, gs.length, none⟩ = some (.pointer none) := by
  have e : (ptrs gs n)[gs.length]? = some (.pointer none) := by
    unfold ptrs
    rw [List.getElem?_toArray, List.getElem?_append_right (by simp), List.getElem?_replicate, if_pos (by simp; omega)]
  unfold World.cell?
  simp [h.row, e]
theorem Ints.old {w : World} {base G : Nat} {gs : List Nat} {n : Nat} {z : Nat → Int} (h : Ints w base G gs n z) {g : Nat} (hg : g ∈ gs) : g < w.heap.size := by
  obtain ⟨i, hi, rfl⟩ := List.getElem_of_mem hg
  have h1 := (h.at_ i hi).lt
  rwa [show gs.getD i 0 = gs[i] by simp [hi]] at h1
theorem info_ptr : (Try.prog.info? 75).map (fun i => (i.zero, i.size, i.bytes)) = some (some (.pointer none), 1, 8) := by kernel_rfl
theorem make_ptrs (n : Nat) (h : n ≤ 35184372088832) : ∀ W : World, (Instr.makeSlice 66 (.int .i64 (n : Int)) (.int .i64 (n : Int))).run Try.prog W = .ok (.slice (some ⟨W.heap.size, 0, none⟩) n n) (W.alloc (.cells (ptrs [] n) 75)) := fun W => by
  rw [← made_ptrs]
  exact run_make_row' (P := Try.prog) 66 75 (.pointer none) 8 Try.underlying66 info_ptr rfl .i64 .i64 n (by omega) (by omega) W
set_option maxRecDepth 100000 in
theorem series_value (A : Option Addr) (l c n : Nat) (xs : List Raw) (w : World) (h1 : Poly w w.heap.size A xs) (hl : l = xs.length) (hn : n ≤ 4096) (hsm : ∀ x ∈ xs, x.2.length ≤ 4096) :
    Calls Try.prog 54 #[.slice A l c, .int .i64 (n : Int)] w fun e w' => ∃ gs, e = .returned (.slice (some ⟨w.heap.size, 0, none⟩) n n) ∧ gs.length = n ∧ Ints w' w.heap.size w.heap.size gs n (zAt xs) ∧ Below w.heap.size w w' := by
  have hmk := make_ptrs n (by omega)
  have hnI : (n : Int) ≤ 4096 := by omega
  have HL := Lib.hid hl
  clear hl hn
  go_enter Try.func54, Try.ntmps54
  go_wp2_with fail
  go_loopw [12] (fun t12 wr => ∃ (k : Nat) (gs : List Nat), k ≤ n ∧ t12 = .int .i64 (k : Int) ∧ gs.length = k ∧ Ints wr w.heap.size w.heap.size gs n (zAt xs) ∧ Below w.heap.size w wr) (fun t12 _ => n - (intOf t12).toNat)
  case atStart =>
    exact ⟨0, [], by omega, rfl, rfl, ⟨heap_alloc_new w _, by simp, by simp, ⟨Nat.le_refl _, by simp⟩, by simp⟩, (Below.refl _ _).alloc (Nat.le_refl _) _⟩
  case round =>
    obtain ⟨wo, hwo⟩ : ∃ wo : World, wo = wr := ⟨_, rfl⟩
    subst hwo
    obtain ⟨k, gs, hk, rfl, hgs, hints, hbel⟩ := hrel
    by_cases hlt : k < n
    · have hI1 : Ints (wo.alloc (.cells #[.bool false, .slice none 0 0] 84)) w.heap.size w.heap.size gs n (zAt xs) := hints.below ((Below.refl _ wo).alloc (Nat.le_refl _) _)
      have hG := hints.lt
      have hcG := hI1.empty (by omega)
      rw [hgs] at hcG
      have hfG := hI1.free k
      have hI2 := hI1.push (by omega) (IntAt.fresh wo) (by omega) (fun hm => by have := hints.old hm; omega) (by omega)
      rw [hgs] at hI2
      have hbel2 : Below w.heap.size w ((wo.alloc (.cells #[.bool false, .slice none 0 0] 84)).setCell ⟨w.heap.size, k, none⟩ (ptr wo.heap.size)) := (hbel.alloc hbel.size _).setCell (Nat.le_refl _) _
      have HGS := Lib.hid hgs
      clear hints hI1 hbel hgs
      unfold ptr at hI2 hbel2
      rw [World.setCell_alloc_past (hn := hG)] at hI2 hbel2
      by_cases hkl : k < l
      · have HK := Lib.hid (show k < xs.length by rw [← HL.out]; exact hkl)
        obtain ⟨ad, Am, lm, cm, rfl, hb, hc0, hc1, hlm, hcm, hlim⟩ := (h1.below hbel2).at_ HK.out
        obtain ⟨⟨b, ms⟩, hx⟩ : ∃ x, xs.getD k (false, []) = x := ⟨_, rfl⟩
        have hms : ms.length ≤ 4096 := by
          have h := hsm _ (getD_mem HK.out)
          rw [hx] at h
          exact h
        rw [hx] at hc0 hlm hlim
        have HX := Lib.hid hx
        simp only at hc0 hlm
        subst hlm
        have hmkw := make_words ms.length (by omega)
        clear hx
        go_wp2_with fail
        generalize hW2 : (wo.setCell ⟨w.heap.size, k, none⟩ (.pointer (some ⟨wo.heap.size, 0, none⟩))).alloc (.cells #[.bool false, .slice none 0 0] 84) = W2 at hI2 hbel2 hc0 hc1 hlim hcG hfG ⊢
        have hs2 : W2.heap.size = wo.heap.size + 1 := by rw [← hW2]; simp
        clear hcG hfG
        have HC0 := Lib.hid hc0
        have HC1 := Lib.hid hc1
        have hmI : (ms.length : Int) ≤ 4096 := by omega
        clear hc0 hc1 hW2 hmkw
        go_loopw [32] (fun t32 wi => ∃ (q : Nat) (os : List Nat), q ≤ ms.length ∧ t32 = .int .i64 (q : Int) ∧ os.length = ms.length ∧ os.take q = ms.take q ∧ Row wi (wo.heap.size + 1) os ∧ Below W2.heap.size W2 wi) (fun t32 _ => ms.length - (intOf t32).toNat)
        case atStart =>
          exact ⟨0, List.replicate ms.length 0, by omega, rfl, by simp, by simp, by rw [← hs2]; exact Row.made _ _, (Below.refl _ _).alloc (Nat.le_refl _) _⟩
        case round =>
          obtain ⟨q, os, hq, rfl, ho, htk, hrow, hbi⟩ := hrel
          have HT := Lib.hid htk
          have HO := Lib.hid ho
          clear htk ho
          have hsz2 := hbel2.size
          have hc1 := (hbi.cell (p := ⟨(ad.add (k * 2)).block, (ad.add (k * 2)).off + 1, none⟩) (by show (ad.add (k * 2)).block < _; rw [block_of_add]; omega)).trans HC1.out
          by_cases hqt : q < ms.length
          · obtain ⟨ad3, rfl, hb3, hcell⟩ := (hlim.below (hbi.mono hsz2)).at_ hqt
            have HS := Lib.hid (take_copy HO.out hqt HT.out)
            obtain ⟨x, hx⟩ : ∃ x, ms.getD q 0 = x := ⟨_, rfl⟩
            have hxs : x < W64 := hx ▸ hlim.small.getD q
            rw [hx] at hcell HS
            have hcg := hrow.cell (k := q) (by rw [HO.out]; omega)
            have hfg := hrow.free q
            have hset := hrow.set (k := q) (x := x) (by rw [HO.out]; omega) hxs
            have hbi' := hbi.setCell (p := ⟨wo.heap.size + 1, q, none⟩) (by rw [hs2]; exact Nat.le_refl _) (.int .u64 (x : Int))
            have HLn := Lib.hid (show (os.set q x).length = ms.length by rw [List.length_set, HO.out])
            clear hx hxs
            go_wp2_with fail
            exact ⟨⟨q + 1, os.set q x, by omega, by go_num, HLn.out, HS.out, hset, hbi'⟩, by simp [intOf]; omega⟩
          · obtain rfl : q = ms.length := by omega
            have hos : os = ms := by
              have h2 := HT.out
              rw [List.take_length] at h2
              rwa [List.take_of_length_le (by rw [HO.out]; omega)] at h2
            subst hos
            have hIi := hI2.below hbi
            have hgk : (gs ++ [wo.heap.size]).getD k 0 = wo.heap.size := by rw [← HGS.out]; simp
            have HGK := Lib.hid hgk
            have hklen : k < (gs ++ [wo.heap.size]).length := by simp [HGS.out]
            have hcp := hIi.cell hklen
            rw [hgk] at hcp
            unfold ptr at hcp
            have hat := hIi.at_ k hklen
            rw [hgk] at hat
            simp only [↓reduceIte] at hat
            have hbw : Below w.heap.size w wr := hbel2.trans (hbi.mono hsz2)
            have hG2 : w.heap.size ≤ wo.heap.size := by omega
            have hadb : (ad.add (k * 2)).block < w.heap.size := by rw [block_of_add]; exact hb
            have HV := Lib.hid (show zAt xs k = signed b (val os) by unfold zAt; rw [HX.out])
            clear hgk
            go_wp2_with fail
            refine (int_setBits wo.heap.size 0 _ os.length os wr hat (hrow.lim hrow.lt) (by omega)).mono ?_
            rintro e w2 ⟨rfl, hz, he2⟩
            have hI3 := hIi.write hklen (v := (val os : Nat)) (by rw [HGK.out]; exact he2) (by rw [HGK.out]; exact hz)
            have hb2 : Below w.heap.size w w2 := (Ext.hidden (Ext.of_below hbw) he2 hG2).below
            have hc02 : w2.cell? (ad.add (k * 2)) = some (.bool b) := (hb2.cell hadb).trans ((hbel2.cell hadb).symm.trans HC0.out)
            have hcp2 := hI3.cell hklen
            rw [HGK.out] at hcp2
            unfold ptr at hcp2
            clear hc1 hcp hrow hbi
            cases b with
            | false =>
              go_wp2_with fail
              refine ⟨⟨k + 1, gs ++ [wo.heap.size], by omega, by go_num, by simp [HGS.out], hI3.congr (fun i hi => ?_), hb2⟩, by simp [intOf]; omega⟩
              by_cases hik : i = k
              · subst hik; simp [HV.out, signed]
              · simp [hik]
            | true =>
              have hrr : ∀ δ : Later Nix w2, δ.world.cell? ⟨w.heap.size, k, none⟩ = some (.pointer (some ⟨wo.heap.size, 0, none⟩)) := fun δ => by
                rw [cell_of_block (w := w2) (δ.ext.block _ (by have := hI3.lt; exact this) (fun h => h))]; exact hcp2
              have hlen : (limbs (val os)).length ≤ 1099511627776 := Nat.le_trans (limbs_val_le hlim.small) (by omega)
              have HLEN := Lib.hid hlen
              clear hlen
              go_wp2_with fail
              refine wp_region_stages (fun w' => ∃ δ : Later Nix w2, w' = δ.world) [(false, 0), (false, 1), (false, 2), (false, 3), (false, 4), (false, 5), (false, 6), (false, 7)] 8 [.reads [_, _, _, _, _, _, _, _]] [_] (by kernel_rfl) (by kernel_rfl) rfl rfl ?_ ?_
              · exact ⟨⟨_, nix_drawn w2⟩, rfl⟩
              refine wpStages_reads ?_
              repeat (go_big_quiet_step (fail))
              refine wpQuiet_nil ?_
              refine wpStages_nil ?_
              go_wp2_with fail
              refine (int_neg wo.heap.size wo.heap.size (val os : Nat) (val os : Nat) (w2.drewN 1) (hz.drewN 1) (hz.drewN 1) (by rw [Int.natAbs_natCast]; exact HLEN.out)).mono ?_
              rintro e w3 ⟨rfl, hz3, he3⟩
              have hI4 := (hI3.below (below_drewN (Below.refl _ w2) 1)).write hklen (v := -((val os : Nat) : Int)) (by rw [HGK.out]; exact he3) (by rw [HGK.out]; exact hz3)
              have hb3 : Below w.heap.size w w3 := (Ext.hidden (Ext.of_below (below_drewN hb2 1)) he3 hG2).below
              clear hrr
              go_wp2_with fail
              refine ⟨⟨k + 1, gs ++ [wo.heap.size], by omega, by go_num, by simp [HGS.out], hI4.congr (fun i hi => ?_), hb3⟩, by simp [intOf]; omega⟩
              by_cases hik : i = k
              · subst hik; simp [HV.out, signed]
              · simp [hik]
      · have HZ := Lib.hid (show zAt xs k = 0 by
          unfold zAt
          rw [show xs.getD k (false, []) = (false, []) by simp [show xs.length ≤ k by rw [← HL.out]; omega]]; simp [signed])
        go_wp2_with fail
        refine ⟨⟨k + 1, gs ++ [wo.heap.size], by omega, by go_num, by simp [HGS.out], hI2.congr (fun i hi => ?_), hbel2⟩, by simp [intOf]; omega⟩
        by_cases hik : i = k
        · subst hik; simp [HZ.out]
        · simp [hik]
    · obtain rfl : k = n := by omega
      go_wp2_with fail
      go_ret
      exact ⟨gs, rfl, hgs, hints, hbel⟩
end Go.Proofs.Ytmnfokapdipcdaa
