import Derived.Test.YtonbhpadoplpkaaGreatRb
import Derived.Test.YtonbhpadoplpkaaGreatProg
import Derived.WalkKit
import Derived.Laws.OwnMore
import Derived.Deep.Draws
import Derived.Deep.OwnRows
import Derived.Deep.LoopGhost
import Derived.Deep.QuietTactic
import Derived.BigQuiet
import Derived.Lib.Hide
import Derived.Maps.AppendAt
import Derived.Laws.Rows
import Derived.OneCell
import Derived.Shelf.Spec.BitsCarry
import Derived.Deep.DeepCutAuto
import Derived.Shelf.Small.Bits
import Derived.Shelf.Strconv.Itoa0
import Derived.Shelf.Bits.Mul64
import Derived.Lib.BitFns
import Derived.Deep.CutBlock
import Derived.BigRegion
import Derived.StillTailTactics
import Derived.Deep.AppendLies
import Derived.Orders
import Derived.Lib.SliceRun
import Derived.Deep.MidRow
import Derived.BigCall
import Derived.Great.BuildSlice
import Derived.Deep.RegionWith
import Derived.WalkMore
import Derived.Laws.EntriesVeiled
import Derived.Laws.CopyOwn
import Derived.Test.YtonbhpadoplpkaaGreatRows
import Derived.ProofKit
import Derived.OpenShut
import Derived.Deep.SlicePairs
import Derived.WideKeyArgs
/- Of: Div3, Limb, Limb3, Div4, Div5, Times, Kar, Kar2, Kar3, Kar4. -/
/- The package divide: long. -/
namespace Go.Proofs.YtonbhpadoplpkaaGreat
open Go.RowKit Go.Deep
theorem Row.stay {w w' : World} {g : Nat} {os : List Nat} (h : Row w g os) (hb : Below w.heap.size w w') : Row w' g os := h.call hb
theorem wraps_eq {a : Int} {m : Nat} (h : a = (m : Int)) (hm : m < 9223372036854775808) : IntKind.i64.wrap a = (m : Int) ∧ wrap64 a = (m : Int) := by
  subst h
  have h : IntKind.i64.wrap (m : Int) = (m : Int) := by rw [IntKind.wrap_i64]; omega
  exact ⟨h, by unfold wrap64; omega⟩
theorem long_index {j n D la lb : Nat} (hn : lb + 2 = n) (hla : la = D + (lb + 2)) (hj : j + 1 ≤ D + 1) (hl : la ≤ 549755813888) :
    ∃ m2 m1 m0 n1 : Nat, j + (lb + 2) = m2 ∧ j + (lb + 1) = m1 ∧ j + lb = m0 ∧ lb + 1 = n1 ∧ (j : Int) < (D : Int) + 1 ∧ (m2 : Int) < (la : Int) + 1 ∧ (m1 : Int) < (la : Int) + 1 ∧ (m0 : Int) < (la : Int) + 1 ∧ (n1 : Int) < (n : Int) ∧ (lb : Int) < (n : Int) ∧ (j : Int) ≤ 549755813888 ∧
      (IntKind.i64.wrap ((j : Int) + (n : Int)) = (m2 : Int) ∧ wrap64 ((j : Int) + (n : Int)) = (m2 : Int)) ∧
      (IntKind.i64.wrap ((m2 : Int) - 1) = (m1 : Int) ∧ wrap64 ((m2 : Int) - 1) = (m1 : Int)) ∧
      (IntKind.i64.wrap ((m2 : Int) - 2) = (m0 : Int) ∧ wrap64 ((m2 : Int) - 2) = (m0 : Int)) ∧
      (IntKind.i64.wrap ((n : Int) - 1) = (n1 : Int) ∧ wrap64 ((n : Int) - 1) = (n1 : Int)) ∧
      (IntKind.i64.wrap ((n : Int) - 2) = (lb : Int) ∧ wrap64 ((n : Int) - 2) = (lb : Int)) :=
  ⟨_, _, _, _, rfl, rfl, rfl, rfl, by omega, by omega, by omega, by omega, by omega, by omega, by omega, wraps_eq (by omega) (by omega), wraps_eq (by omega) (by omega), wraps_eq (by omega) (by omega), wraps_eq (by omega) (by omega), wraps_eq (by omega) (by omega)⟩
theorem Ext.of_nix {w w' : World} (h : Below w.heap.size w w') : Ext Nix w w' := ⟨h.os, h.tape, h.output, h.size, fun i hi _ => h.block i hi, fun _ h => h.elim⟩
/-- The numbers of the long division. -/
structure DSum (V M j : Nat) (us os : List Nat) : Prop where
  less : val (us.drop j) < V
  sum : M = val us + val (os.drop j) * W64 ^ j * V
theorem long_taken {us us1 vs os : List Nat} {j lb V q b M : Nat} (hs : Small us) (hvs : Small vs) (hvl : vs.length = lb + 2) (hV : val vs = V) (hVp : 0 < V) (hVl : V < W64 ^ (lb + 2)) (hul : j + (lb + 3) ≤ us.length) (S : DSum V M (j + 1) us os)
    {u2 u1 u0 v1 v0 : Nat} (hu : us.getD (j + (lb + 2)) 0 = u2 ∧ us.getD (j + (lb + 1)) 0 = u1 ∧ us.getD (j + lb) 0 = u0 ∧ vs.getD (lb + 1) 0 = v1 ∧ vs.getD lb 0 = v0) (G : Guess u2 u1 u0 v1 v0 q)
    (hlen : us1.length = us.length) (htk : us1.take j = us.take j) (hdr : us1.drop (j + (lb + 3)) = us.drop (j + (lb + 3))) (hv : val ((us1.drop j).take (lb + 3)) + q * val vs = val ((us.drop j).take (lb + 3)) + W64 ^ (lb + 3) * b) (hb : b ≤ 1) :
    (b = 0 ∧ Given us us1 j lb V q) ∨ (b = 1 ∧ Giving us us1 j lb V q) := by
  obtain ⟨h1, _⟩ := over_win (lb := lb + 2) hs hul hVl S.less
  obtain ⟨e2, e1, e0, e4, e3⟩ := hu
  have hwl : ((us.drop j).take (lb + 3)).length = lb + 3 := by rw [List.length_take, List.length_drop]; omega
  have hg := guess_window ((hs.drop j).take (lb + 3)) hvs hvl hwl (g := q) (by
    rw [getD_win us j (lb + 3) (lb + 2) (by omega), getD_win us j (lb + 3) (lb + 1) (by omega), getD_win us j (lb + 3) lb (by omega), e2, e1, e0, e4, e3]; exact G) (by rw [hV]; exact h1)
  rw [hV] at hg hv
  exact taken hlen htk hdr hv hb hg.1 hg.2 hVp
theorem long_given {us us1 os : List Nat} {j lb V q M : Nat} (hs : Small us) (hVp : 0 < V) (hVl : V < W64 ^ (lb + 2)) (hul : j + (lb + 3) ≤ us.length) (hj : j < os.length) (S : DSum V M (j + 1) us os) (G : Given us us1 j lb V q) : DSum V M j us1 (os.set j q) := by
  obtain ⟨h1, h2⟩ := over_step (lb := lb + 2) hs G.len hul hVp hVl S.less S.sum G.quo G.tk G.dr G.rest hj
  exact ⟨h1, h2⟩
theorem top_none {us : List Nat} {k : Nat} (hk : k < us.length) (h : val us < W64 ^ k) : val (us.take k) = val us ∧ us.getD k 0 = 0 := by
  have h1 := val_split us k (by omega)
  have h2 := val_drop_step us k hk
  have h0 : val (us.drop k) = 0 := by
    rcases Nat.eq_zero_or_pos (val (us.drop k)) with h3 | h3
    · exact h3
    · have := Nat.mul_le_mul_left (W64 ^ k) h3
      omega
  rw [h0] at h1 h2
  constructor
  · omega
  · omega
theorem rest_limb {k x y s : Nat} (hx : x < W64) (hs : s < 64) (hk : k ≤ 549755813888) :
    ∃ k1 t63 xd y2 yd d : Nat, k + 1 = k1 ∧ IntKind.i64.wrap ((k : Int) + 1) = (k1 : Int) ∧ IntKind.i64.wrap ((63 : Int) - (s : Int)) = (t63 : Int) ∧ (x : Int) / 2 ^ s = (xd : Int) ∧ IntKind.u64.wrap ((y : Int) * 2) = (y2 : Int) ∧ IntKind.u64.wrap ((y2 : Int) * 2 ^ min t63 64) = (yd : Int) ∧
      bits .or .u64 (xd : Int) (yd : Int) = (d : Int) ∧ d < W64 ∧ d * 2 ^ s + x % 2 ^ s = x + W64 * (y % 2 ^ s) := by
  obtain ⟨h1, h2, h3⟩ := shr_step (y := y) hx hs
  have e1 : IntKind.u64.wrap ((y : Int) * 2) = ((y * 2 % W64 : Nat) : Int) := by
    have e : (y : Int) * 2 = ((y * 2 : Nat) : Int) := by simp
    rw [e, wrap_u64_nat]
  have e2 : IntKind.u64.wrap (((y * 2 % W64 : Nat) : Int) * 2 ^ (63 - s)) = ((y * 2 ^ (64 - s) % W64 : Nat) : Int) := by
    have e : ((y * 2 % W64 : Nat) : Int) * 2 ^ (63 - s) = ((y * 2 % W64 * 2 ^ (63 - s) : Nat) : Int) := by simp
    rw [e, wrap_u64_nat]
    congr 1
    rw [Nat.mod_mul_mod, Nat.mul_assoc, show 64 - s = (63 - s) + 1 by omega, Nat.pow_succ, Nat.mul_comm 2]
  have e3 : IntKind.i64.wrap ((63 : Int) - (s : Int)) = ((63 - s : Nat) : Int) := (wraps_eq (m := 63 - s) (by omega) (by omega)).1
  exact ⟨_, _, x / 2 ^ s, _, y * 2 ^ (64 - s) % W64, _, rfl, (wraps_eq (m := k + 1) (by omega) (by omega)).1, e3, by rw [Int.natCast_ediv, Int.natCast_pow]; rfl, e1, by rw [Nat.min_eq_left (by omega)]; exact e2, by
    rw [u64_or_nat _ _ (by rw [← W64_eq]; exact Nat.lt_of_le_of_lt (Nat.div_le_self _ _) hx) (by rw [← W64_eq]; exact Nat.mod_lt _ W64_pos), h3], h1, h2⟩
theorem rest_join {a b c P W R d x xm ym : Nat} (h : a * R + c = b + P * xm) (hd : d * R + xm = x + W * ym) : (a + P * d) * R + c = b + P * x + P * W * ym := by
  have : P * (d * R + xm) = P * (x + W * ym) := by rw [hd]
  grind
theorem Row.grew {w w' : World} {g gr : Nat} {os : List Nat} (h : Row w g os) (hg : w.grownBy w' (some gr)) (hne : g ≠ gr) : Row w' g os := h.of_block (hg.block g h.lt (by intro e; injection e; omega))
theorem getD_set_at {os : List Nat} {j g : Nat} (h : j < os.length) : (os.set j g).getD j 0 = g := by rw [List.getD_eq_getElem?_getD, List.getElem?_set_self h]; rfl
theorem Fresh.grown {w w' : World} {base g c : Nat} {A : Option Addr} (h : Fresh w base A c) (hg : w.grownBy w' (some g)) (hne : ∀ ad, A = some ad → ad.block ≠ g) : Fresh w' base A c := by
  rcases h with h | ⟨k, cs, h1, h2, h3, h4⟩
  · exact .inl h
  · exact .inr ⟨k, cs, h1, h2, by rw [hg.block k (Array.getElem?_eq_some_iff.1 h3).1 (by intro e; injection e with e; exact hne _ h1 e)]; exact h3, h4⟩
theorem Row.lim' {w : World} {g : Nat} {os : List Nat} (h : Row w g os) : Lim w w.heap.size (some ⟨g, 0, none⟩) os := h.lim h.lt
/-- The memory of the long division. -/
structure DMem (w wr : World) (gu gv gq la D n : Nat) (vs us os : List Nat) : Prop where
  ru : Row wr gu us
  lu : us.length = la + 1
  ro : Row wr gq os
  lo : os.length = D + 1
  fq : Fresh wr w.heap.size (some ⟨gq, 0, none⟩) (D + 1)
  bel : Below w.heap.size w wr
  rv : Row wr gv vs
  lv : vs.length = n
  base : w.heap.size ≤ gu
  ne1 : gu < gv
  ne2 : gv < gq
section
variable {w wr w' : World} {gu gv gq la D n : Nat} {vs us os us' : List Nat}
theorem DMem.stay (h : DMem w wr gu gv gq la D n vs us os) (hb : Below wr.heap.size wr w') : DMem w w' gu gv gq la D n vs us os :=
  ⟨h.ru.call hb, h.lu, h.ro.call hb, h.lo, h.fq.below hb, h.bel.trans (hb.mono h.bel.size), h.rv.call hb, h.lv, h.base, h.ne1, h.ne2⟩
theorem DMem.setq (h : DMem w wr gu gv gq la D n vs us os) {j g : Nat} (hj : j < D + 1) (hg : g < W64) : DMem w (wr.setCell ⟨gq, j, none⟩ (.int .u64 (g : Int))) gu gv gq la D n vs us (os.set j g) :=
  ⟨h.ru.far (p := ⟨gq, j, none⟩) (by have := h.ne1; have := h.ne2; show gu ≠ gq; omega) _, h.lu, h.ro.set (by rw [h.lo]; exact hj) hg, by rw [List.length_set, h.lo], h.fq.set gq j _,
    h.bel.setCell (p := ⟨gq, j, none⟩) (by have := h.base; have := h.ne1; have := h.ne2; show w.heap.size ≤ gq; omega) _, h.rv.far (p := ⟨gq, j, none⟩) (by have := h.ne2; show gv ≠ gq; omega) _, h.lv, h.base, h.ne1, h.ne2⟩
theorem DMem.grown (h : DMem w wr gu gv gq la D n vs us os) (hg : wr.grownBy w' (some gu)) (hr : Row w' gu us') (hl : us'.length = us.length) : DMem w w' gu gv gq la D n vs us' os := by
  have e1 := h.ne1
  have e2 := h.ne2
  have eq : w'.heap[gq]? = wr.heap[gq]? := hg.block gq h.ro.lt (by intro e; injection e; omega)
  refine ⟨hr, hl.trans h.lu, h.ro.of_block eq, h.lo, h.fq.grown hg (fun _ e => by injection e with e; subst e; exact (Nat.ne_of_lt (Nat.lt_trans e1 e2)).symm), below_grown h.bel h.bel.size hg h.base, h.rv.of_block (hg.block gv h.rv.lt (by intro e; injection e; omega)), h.lv, h.base, h.ne1, h.ne2⟩
end
set_option maxHeartbeats 800000 in
set_option maxRecDepth 100000 in
theorem divide_long (A1 A2 : Option Addr) (c1 c2 D lb : Nat) (xs ys : List Nat) (w : World) (h1 : Lim w w.heap.size A1 xs) (h2 : Lim w w.heap.size A2 ys) (hyl : ys.length = lb + 2) (hxl : xs.length = D + (lb + 2)) (hl : xs.length ≤ 549755813888) (ht : ys.getD (lb + 1) 0 ≠ 0) :
    Calls Tryz.prog 90 #[.slice A1 xs.length c1, .slice A2 ys.length c2] w fun e w' => ∃ u v, e = .returned (.tuple #[u, v]) ∧ Part w' w.heap.size u (val xs / val ys) ∧ Part w' w.heap.size v (val xs % val ys) ∧ Sep u v ∧ Below w.heap.size w w' := by
  have HST := Lib.hid (long_start h1.small h2.small hyl hxl ht)
  obtain ⟨ad, rfl, hb, hcell⟩ := h2.at_ (k := lb + 1) (by omega)
  obtain ⟨t, htt⟩ : ∃ t, ys.getD (lb + 1) 0 = t := ⟨_, rfl⟩
  have htW : t < W64 := htt ▸ h2.small.getD _
  rw [htt] at hcell HST
  rw [add_succ] at hcell
  have hlz := Lib.hid (bits_lz64 t htW)
  obtain ⟨s, hs⟩ : ∃ s, 64 - bitLen t = s := ⟨_, rfl⟩
  rw [hs] at HST hlz
  have H1 := Lib.hid h1
  have H2 := Lib.hid h2
  have HL1 := Lib.hid (And.intro hxl hl)
  have HYL := Lib.hid hyl
  have lbI : (lb : Int) + 2 ≤ 549755813888 := by omega
  have hsh1 := divide_shifted A1 c1 xs s
  have hsh2 := divide_shifted (some ad) c2 ys s
  rw [hyl] at hsh2 ⊢
  have HS1 := Lib.hid hsh1
  have HS2 := Lib.hid hsh2
  clear hsh1 hsh2
  have rD : (xs.length : Int) - ((lb : Int) + 2) = (D : Int) := by omega
  have hxI : (xs.length : Int) ≤ 549755813888 := by omega
  have hDI : (D : Int) ≤ 549755813888 := by omega
  have hmk := make_limbs_succ D (by omega)
  clear hl htt ht hs h1 h2 hb hyl htW hxl
  go_enter Tryz.func90, Tryz.ntmps90
  go_wp2_with fail
  go_step3
  go_wp2_with fail
  refine (hlz.out _).mono ?_
  rintro e w1 ⟨rfl, rfl⟩
  clear hcell
  go_upto_region 3 with (fail)
  refine wp_region_stages (fun w' => ∃ δ : Later Nix w, w' = δ.world) [(false, 0), (false, 1), (false, 3), (false, 4), (false, 6), (true, 2), (true, 5), (false, 7), (false, 8)] 9 [.reads [_, _, _, _, _], .loud _, .loud _, .reads [_, _]] [_] (by kernel_rfl) (by kernel_rfl) rfl rfl ?_ ?_
  · exact ⟨⟨_, nix_drawn w⟩, rfl⟩
  refine wpStages_reads ?_
  repeat (go_big_quiet_step (fail))
  refine wpQuiet_nil ?_
  refine wpStages_loud rfl ?_
  intro K hK
  go_big_op
  have ex : Ext Nix w (w.drewN 1) := nix_drawn w
  have hb : Below w.heap.size w (w.drewN 1) := below_drewN (Below.refl _ _) 1
  replace H1 := Lib.hid (H1.out.stay hb)
  replace H2 := Lib.hid (H2.out.stay hb)
  clear hb
  refine ((HS1.out _ (Nat.le_refl _) H1.out (by have := HL1.out; omega) HST.out.1)).mono ?_
  rintro e w1 ⟨gu, us0, rfl, hgu, hul, hrow, hfr, hval, hb⟩
  replace ex : Ext Nix w w1 := ex.later (Ext.of_below hb)
  replace H2 := Lib.hid (H2.out.stay hb)
  clear hb
  refine hK _ _ ⟨⟨_, ex⟩, rfl⟩ ?_
  clear hK K
  have HR1 := Lib.hid hrow
  have HUL := Lib.hid (And.intro hul hval)
  clear hfr hrow hul hval
  refine wpStages_loud rfl ?_
  intro K hK
  go_big_op
  refine ((HS2.out _ (Nat.le_refl _) H2.out (by have := HL1.out; have := HYL.out; omega) HST.out.1)).mono ?_
  rintro e w2 ⟨gv, vs0, rfl, hgv, hvl, hrow, hfr, hval, hb⟩
  replace ex : Ext Nix w w2 := ex.later (Ext.of_below hb)
  replace HR1 := Lib.hid (HR1.out.stay hb)
  clear hb
  refine hK _ _ ⟨⟨_, ex⟩, rfl⟩ ?_
  clear hK K
  have HRV := Lib.hid hrow
  have HVL := Lib.hid (And.intro hvl hval)
  have HGG := Lib.hid (show w.heap.size ≤ gu ∧ gu < gv by have h1 : w.heap.size ≤ gu := hgu.1; have h2 := hgu.2; have h3 := hgv.1; omega)
  clear hrow hfr hvl hval hgu hgv
  refine wpStages_reads ?_
  repeat (go_big_quiet_step (fail))
  refine wpQuiet_nil ?_
  refine wpStages_nil ?_
  have HB := Lib.hid (show Below w.heap.size w w2 from ex.below)
  go_upto_region 5 with (fail)
  go_step3
  obtain ⟨W4, gq, hW4, hgq⟩ : ∃ W gq, w2.alloc (.cells (madeCells #[.int .u64 0] (D + 1)) 85) = W ∧ w2.heap.size = gq := ⟨_, _, rfl, rfl⟩
  have hbq : Below w2.heap.size w2 W4 := by rw [← hW4]; exact (Below.refl _ _).alloc (Nat.le_refl _) _
  have HRQ := Lib.hid (show Row W4 gq (List.replicate (D + 1) 0) by rw [← hW4, ← hgq]; exact Row.made _ _)
  have HFQ := Lib.hid (show Fresh W4 w.heap.size (some ⟨gq, 0, none⟩) (D + 1) by rw [← hW4, ← hgq]; exact (Fresh.made w2 (D + 1)).since HB.out.size)
  have HGQ := Lib.hid (show gv < gq by rw [← hgq]; exact HRV.out.lt)
  rw [hW4, hgq]
  replace HR1 := Lib.hid (HR1.out.stay hbq)
  replace HRV := Lib.hid (HRV.out.stay hbq)
  replace HB := Lib.hid (HB.out.trans (hbq.mono HB.out.size))
  clear hW4 hgq hbq ex H1 H2 HS1 HS2 hlz hmk
  have HV0 := Lib.hid (show val (vs0.take (lb + 2)) = val ys * 2 ^ s by
    have h := HVL.out.2
    have h3 := val_split vs0 (lb + 2) (by rw [HVL.out.1]; omega)
    have h4 := HST.out.2.1
    rcases Nat.eq_zero_or_pos (val (vs0.drop (lb + 2))) with h0 | h0
    · rw [h0, Nat.mul_zero, Nat.add_zero] at h3; rw [← h3, h]
    · have h5 := Nat.mul_le_mul_left (W64 ^ (lb + 2)) (show 1 ≤ val (vs0.drop (lb + 2)) from h0)
      omega)
  have HRV2 := Lib.hid (HRV.out.take (lb + 2))
  obtain ⟨vs, hvs⟩ : ∃ l, vs0.take (lb + 2) = l := ⟨_, rfl⟩
  have HVS := Lib.hid (show vs.length = lb + 2 by rw [← hvs, List.length_take, HVL.out.1]; omega)
  rw [hvs] at HV0 HRV2
  clear hvs HRV HVL
  obtain ⟨n, hn⟩ : ∃ n : Nat, lb + 2 = n := ⟨_, rfl⟩
  have en : (lb : Int) + 2 = (n : Int) := by omega
  rw [en, hn]
  have nI : (n : Int) ≤ 549755813888 := by omega
  have nI2 : (2 : Int) ≤ (n : Int) := by omega
  have xI : (n : Int) ≤ (xs.length : Int) := by omega
  have HN := Lib.hid hn
  clear en hn lbI rD
  obtain ⟨V, hV⟩ : ∃ V, val ys * 2 ^ s = V := ⟨_, rfl⟩
  obtain ⟨M, hM⟩ : ∃ M, val xs * 2 ^ s = M := ⟨_, rfl⟩
  have HUM := Lib.hid (show us0.length = xs.length + 1 ∧ val us0 = M by rw [← hM]; exact HUL.out)
  have HST2 := Lib.hid HST.out
  rw [hV] at HV0 HST2
  rw [hM] at HST2
  have HVE := Lib.hid (And.intro hV hM)
  clear hV hM HUL HST
  go_wp2_with fail
  go_loopw [11] (fun t11 wr => ∃ (j : Nat) (us os : List Nat), j ≤ D + 1 ∧ t11 = .int .i64 ((j : Int) - 1) ∧ Hid (DMem w wr gu gv gq xs.length D n vs us os) ∧ Hid (DSum V M j us os)) (fun t11 _ => (intOf t11 + 1).toNat)
  case atStart =>
    have hdrop : val (us0.drop (D + 1)) < V := by
      have h3 := val_split us0 (D + 1) (by rw [HUM.out.1, HL1.out.1]; omega)
      rw [HUM.out.2] at h3
      exact Nat.lt_of_mul_lt_mul_left (a := W64 ^ (D + 1)) (by have := HST2.out.2.2.2.2; omega)
    exact ⟨D + 1, us0, List.replicate (D + 1) 0, by omega, by simp, Lib.hid ⟨HR1.out, HUM.out.1, HRQ.out, by simp, HFQ.out, HB.out, HRV2.out, by rw [HVS.out, HN.out], HGG.out.1, HGG.out.2, HGQ.out⟩, Lib.hid ⟨hdrop, by
      rw [List.drop_of_length_le (by simp), HUM.out.2]; simp⟩⟩
  case round =>
    clear HR1 HUM HRQ HFQ HB HRV2
    obtain ⟨j, us, os, hj, rfl, HD, HS⟩ := hrel
    rcases j with _ | j
    · have HQ := Lib.hid (show val os = val xs / val ys ∧ val us / 2 ^ s = val xs % val ys by
        have h3 := HS.out.sum
        have h4 := HS.out.less
        have h6 := HVE.out
        rw [List.drop_zero] at h3 h4
        rw [Nat.pow_zero, Nat.mul_one] at h3
        have h5 := div_moved (val xs) (val ys) s (by have := HST2.out.2.2.2.1; omega)
        rw [h6.1, h6.2] at h5
        have hV0 : 0 < V := by omega
        rw [← h5.1, ← h5.2, h3, Nat.mul_comm (val os), Nat.add_mul_div_left _ _ hV0, Nat.div_eq_of_lt h4, Nat.zero_add, Nat.add_mul_mod_self_left, Nat.mod_eq_of_lt h4]
        exact ⟨rfl, rfl⟩)
      have HFIN := Lib.hid (show val (us.take n) = val us ∧ us.getD n 0 = 0 ∧ us.length = xs.length + 1 by
        have h1 := HS.out.less
        rw [List.drop_zero] at h1
        exact ⟨(top_none (k := n) (by rw [HD.out.lu]; have := HL1.out.1; have := HN.out; omega) (Nat.lt_trans h1 (by rw [← HN.out]; exact HST2.out.2.1))).1, (top_none (k := n) (by rw [HD.out.lu]; have := HL1.out.1; have := HN.out; omega) (Nat.lt_trans h1 (by rw [← HN.out]; exact HST2.out.2.1))).2, HD.out.lu⟩)
      have hmk := make_limbs n (by omega)
      go_upto_region 14 with (fail)
      obtain ⟨W5, gr, hW5, hgr⟩ : ∃ W g, wr.alloc (.cells (madeCells #[.int .u64 0] n) 85) = W ∧ wr.heap.size = g := ⟨_, _, rfl, rfl⟩
      have hb5 : Below wr.heap.size wr W5 := by rw [← hW5]; exact (Below.refl _ _).alloc (Nat.le_refl _) _
      have HRR := Lib.hid (show Row W5 gr (List.replicate n 0) by rw [← hW5, ← hgr]; exact Row.made _ _)
      have HFR := Lib.hid (show Fresh W5 gr (some ⟨gr, 0, none⟩) n by rw [← hW5, ← hgr]; exact Fresh.made wr n)
      have HGR := Lib.hid (show gq < gr by rw [← hgr]; exact HD.out.ro.lt)
      rw [hW5, hgr]
      replace HD := Lib.hid (HD.out.stay hb5)
      clear hW5 hgr hb5 hmk
      have HSS := Lib.hid (show s < 64 from HST2.out.1)
      go_wp2_with fail
      go_loopw [109] (fun t109 w3 => ∃ (k : Nat) (rs : List Nat), k ≤ n ∧ t109 = .int .i64 (k : Int) ∧ Hid (rs.length = n) ∧ Hid (Row w3 gr rs) ∧ Hid (W5.grownBy w3 (some gr)) ∧ Hid (Fresh w3 gr (some ⟨gr, 0, none⟩) n) ∧ Hid (val (rs.take k) * 2 ^ s + us.getD 0 0 % 2 ^ s = val (us.take k) + W64 ^ k * (us.getD k 0 % 2 ^ s))) (fun t109 _ => n - (intOf t109).toNat)
      case atStart => exact ⟨0, List.replicate n 0, by omega, rfl, Lib.hid (by simp), HRR, Lib.hid ⟨rfl, rfl, rfl, Nat.le_refl _, fun _ _ _ => rfl⟩, HFR, Lib.hid (by simp)⟩
      case round =>
        clear HRR HFR
        obtain ⟨k, rs, hk, rfl, HRL, HRR, HG3, HFR, HV⟩ := hrel
        by_cases hkn : k < n
        · have hru := HD.out.ru.grew HG3.out (show gu ≠ gr by have := HGR.out; have := HD.out.ne1; have := HD.out.ne2; omega)
          obtain ⟨x, hx⟩ : ∃ x, us.getD k 0 = x := ⟨_, rfl⟩
          obtain ⟨y, hy⟩ : ∃ x, us.getD (k + 1) 0 = x := ⟨_, rfl⟩
          obtain ⟨k1, t63, xd, y2, yd, d, hk1, ek1, et, ex, ey2, eyd, ed, hdW, hstep⟩ := rest_limb (k := k) (x := x) (y := y) (by rw [← hx]; exact hru.small.getD k) HSS.out (show k ≤ 549755813888 by omega)
          have hcx := hru.cell (k := k) (by rw [HFIN.out.2.2]; omega)
          have hcy := hru.cell (k := k + 1) (by rw [HFIN.out.2.2]; omega)
          rw [hx] at hcx
          rw [hy, hk1] at hcy
          have r0 := later_cell hcx
          have r1 := later_cell hcy
          have kI : (k : Int) < (n : Int) := by omega
          have k1I : (k1 : Int) < (xs.length : Int) + 1 := by omega
          have kI2 : (k : Int) < (xs.length : Int) + 1 := by omega
          have sI : (s : Int) < 64 := by have := HSS.out; omega
          have HXY := Lib.hid (And.intro hx (And.intro hy hk1))
          have HDS := Lib.hid (And.intro hdW hstep)
          have hcr := HRR.out.cell (k := k) (by rw [HRL.out]; exact hkn)
          have hfr := HRR.out.free k
          clear hx hy hk1 hstep hdW hcx hcy
          go_upto_region 17 with (fail)
          refine wp_region_stages (fun w' => ∃ δ : Later Nix wr, w' = δ.world) [(false, 0), (false, 1), (false, 2), (false, 3), (false, 4), (false, 5), (false, 6), (false, 7), (false, 8), (false, 9), (false, 10), (false, 11), (false, 12), (false, 13), (false, 14), (false, 15), (false, 16), (false, 17), (false, 18)] 19 [.reads [_, _, _, _, _, _, _, _, _, _, _, _, _, _, _, _, _, _, _]] [_] (by kernel_rfl) (by kernel_rfl) rfl rfl ?_ ?_
          · exact ⟨⟨_, nix_drawn wr⟩, rfl⟩
          refine wpStages_reads ?_
          repeat (go_big_quiet_step (fail))
          refine wpQuiet_nil ?_
          refine wpStages_nil ?_
          have HSTEP := Lib.hid (show val ((rs.set k d).take (k + 1)) * 2 ^ s + us.getD 0 0 % 2 ^ s = val (us.take (k + 1)) + W64 ^ (k + 1) * (us.getD (k + 1) 0 % 2 ^ s) by
            have h1 := HXY.out
            rw [val_take_set rs k d (by rw [HRL.out]; exact hkn), val_take_step us, h1.1, h1.2.1, Nat.pow_succ]
            have h2 := HV.out
            rw [h1.1] at h2
            exact rest_join h2 HDS.out.2)
          have HR2 := Lib.hid (show Row ((wr.drewN 1).setCell ⟨gr, k, none⟩ (.int .u64 (d : Int))) gr (rs.set k d) from (HRR.out.drewN 1).set (by rw [HRL.out]; exact hkn) HDS.out.1)
          have HF4 := Lib.hid (show Fresh ((wr.drewN 1).setCell ⟨gr, k, none⟩ (.int .u64 (d : Int))) gr (some ⟨gr, 0, none⟩) n from (HFR.out.below (below_drewN (Below.refl _ _) 1)).set gr k _)
          have HG4 := Lib.hid (grownBy_trans HG3.out (grownBy_trans (drew_grown wr 1 (some gr)) (only_set (wr.drewN 1) ⟨gr, k, none⟩ (.int .u64 (d : Int)))))
          clear ek1 et ex ey2 eyd ed r0 r1 hru
          go_wp2_with fail
          exact ⟨⟨k + 1, _, by omega, by go_num, Lib.hid (by rw [List.length_set, HRL.out]), HR2, HG4, HF4, HSTEP⟩, by simp [intOf]; omega⟩
        · obtain rfl : k = n := by omega
          have HR := Lib.hid (show val rs = val us / 2 ^ s by
            have h := HV.out
            rw [List.take_of_length_le (l := rs) (by rw [HRL.out]; omega), HFIN.out.1, HFIN.out.2.1, Nat.zero_mod, Nat.mul_zero, Nat.add_zero] at h
            have h2 : us.getD 0 0 % 2 ^ s < 2 ^ s := Nat.mod_lt _ (Nat.pow_pos (by omega))
            rw [← h, Nat.mul_comm, Nat.mul_add_div (Nat.pow_pos (by omega)), Nat.div_eq_of_lt h2]; rfl)
          have kI : ¬ (k : Int) < (k : Int) := by omega
          go_wp2_with fail
          go_ret2
          have e5 := HGR.out
          have hq : Part wr w.heap.size (.slice (some ⟨gq, 0, none⟩) (D + 1) (D + 1)) (val xs / val ys) := by
            have h := Part.row (HD.out.ro.grew HG3.out (by omega)) (base := w.heap.size) (by rw [HD.out.lo]; exact HD.out.fq.grown HG3.out (fun _ e => by injection e with e; subst e; exact Nat.ne_of_lt e5)) (by rw [HD.out.lo]; omega)
            rw [HD.out.lo, HQ.out.1] at h
            exact h
          have hr : Part wr gr (.slice (some ⟨gr, 0, none⟩) k k) (val xs % val ys) := by
            have h := Part.row HRR.out (base := gr) (by rw [HRL.out]; exact HFR.out) (by rw [HRL.out]; omega)
            rw [HRL.out, HR.out, HQ.out.2] at h
            exact h
          have e6 := HD.out.ne1
          have e7 := HD.out.ne2
          have e8 := HD.out.base
          refine ⟨_, _, rfl, hq, hr.since (by omega), fun a b h1 h2 => by cases h1; cases h2; show gq ≠ gr; omega, below_grown HD.out.bel HD.out.bel.size HG3.out (by omega)⟩
    · have e1 : ((j + 1 : Nat) : Int) - 1 = (j : Int) := by omega
      rw [e1]
      have hul := HD.out.lu
      have hla := HL1.out.1
      have hVS := HVS.out
      have hcu2 := HD.out.ru.cell (k := j + (lb + 2)) (by omega)
      have hcu1 := HD.out.ru.cell (k := j + (lb + 1)) (by omega)
      have hcu0 := HD.out.ru.cell (k := j + lb) (by omega)
      have hcv1 := HD.out.rv.cell (k := lb + 1) (by have := HVS.out; omega)
      have hcv0 := HD.out.rv.cell (k := lb) (by have := HVS.out; omega)
      have hW2 := HD.out.ru.small.getD (j + (lb + 2))
      have hW1 := HD.out.ru.small.getD (j + (lb + 1))
      have hW0 := HD.out.ru.small.getD (j + lb)
      have hX1 := HD.out.rv.small.getD (lb + 1)
      have hX0 := HD.out.rv.small.getD lb
      have HSM := Lib.hid HD.out.ru.small
      have HUL := Lib.hid (show j + (lb + 3) ≤ us.length by omega)
      have HJO := Lib.hid (show j < os.length by have := HD.out.lo; omega)
      have HVV := Lib.hid (show 0 < V ∧ V < W64 ^ (lb + 2) from ⟨by have := HS.out.less; omega, HST2.out.2.1⟩)
      obtain ⟨u2, hu2⟩ : ∃ u, us.getD (j + (lb + 2)) 0 = u := ⟨_, rfl⟩
      obtain ⟨u1, hu1⟩ : ∃ u, us.getD (j + (lb + 1)) 0 = u := ⟨_, rfl⟩
      obtain ⟨u0, hu0⟩ : ∃ u, us.getD (j + lb) 0 = u := ⟨_, rfl⟩
      obtain ⟨v1, hv1⟩ : ∃ u, vs.getD (lb + 1) 0 = u := ⟨_, rfl⟩
      obtain ⟨v0, hv0⟩ : ∃ u, vs.getD lb 0 = u := ⟨_, rfl⟩
      rw [hu2] at hcu2 hW2
      rw [hu1] at hcu1 hW1
      rw [hu0] at hcu0 hW0
      rw [hv1] at hcv1 hX1
      rw [hv0] at hcv0 hX0
      have HVP := Lib.hid (show 0 < v1 by
        have h := top_pos (n := lb + 1) HD.out.rv.small (by have := HVS.out; omega) (by rw [HV0.out]; exact HST2.out.2.2.1)
        rw [hv1] at h; omega)
      have r0 := later_cell hcu2
      have r1 := later_cell hcu1
      have r2 := later_cell hcu0
      have r3 := later_cell hcv1
      have r4 := later_cell hcv0
      have HU := Lib.hid (And.intro hu2 (And.intro hu1 (And.intro hu0 (And.intro hv1 hv0))))
      obtain ⟨m2, m1, m0, n1, hm2, hm1, hm0, hn1, jI1, i2, i1, i0, k1, k0, jI4, hw⟩ := long_index (j := j) HN.out HL1.out.1 hj HL1.out.2
      rw [hm2] at r0
      rw [hm1] at r1
      rw [hm0] at r2
      rw [hn1] at r3
      have HW := Lib.hid hw
      have HI2 := Lib.hid i2
      have HM := Lib.hid (And.intro hm2 (And.intro hm1 (And.intro hm0 hn1)))
      clear hul hla hu2 hu1 hu0 hv1 hv0 e1 hcu2 hcu1 hcu0 hcv1 hcv0 hm2 hm1 hm0 hn1 hj nI2 xI hDI hw
      go_upto_region 8 with (fail)
      obtain ⟨⟨s2, s2'⟩, ⟨s1, s1'⟩, ⟨s0, s0'⟩, ⟨y1, y1'⟩, y0, y0'⟩ := HW.out

      refine wp_region_stages (fun w' => ∃ δ : Later Nix wr, w' = δ.world) [(false, 0), (false, 1), (false, 2), (false, 3), (false, 4), (false, 5), (false, 6), (false, 7), (false, 8), (false, 9), (false, 10), (false, 11), (false, 12), (false, 13), (false, 14), (false, 15), (false, 16), (false, 17), (false, 18), (false, 19), (false, 20), (false, 21), (false, 22), (false, 23), (false, 24), (false, 25), (false, 26), (false, 27), (false, 28), (false, 29), (false, 30), (false, 31), (true, 32)] 33 [.reads [_, _, _, _, _, _, _, _, _, _, _, _, _, _, _, _, _, _, _, _, _, _, _, _, _, _, _, _, _, _, _, _], .loud _] [_, _] (by kernel_rfl) (by kernel_rfl) rfl rfl ?_ ?_
      · exact ⟨⟨_, nix_drawn wr⟩, rfl⟩
      refine wpStages_reads ?_
      repeat (go_big_quiet_step (fail))
      refine wpQuiet_nil ?_
      refine wpStages_loud rfl ?_
      intro K hK
      go_big_op
      clear s2 s2' s1 s1' s0 s0' y1 y1' y0 y0' r0 r1 r2 r3 r4 i2 i1 i0 k1 k0
      refine (divide_guess _ _ _ _ _ _ hW2 hW1 hW0 hX1 hX0 HVP.out).mono ?_
      rintro e w1 ⟨g, rfl, hG, q1, rfl⟩
      obtain ⟨W1, hW1⟩ : ∃ W, (wr.drewN 1).drewN q1 = W := ⟨_, rfl⟩
      have hb : Below wr.heap.size wr W1 := by rw [← hW1]; exact below_drewN (below_drewN (Below.refl _ _) 1) q1
      rw [hW1]
      refine hK _ _ ⟨⟨_, Ext.of_nix hb⟩, rfl⟩ ?_
      clear hK K hW1
      replace HD := Lib.hid (HD.out.stay hb)
      clear hb
      have hgW := hG.lt
      have HG := Lib.hid hG
      have hcq := HD.out.ro.cell (k := j) (by rw [HD.out.lo]; omega)
      have hfq := HD.out.ro.free j
      clear hG
      refine wpStages_nil ?_
      go_wp2_with fail
      obtain ⟨W2, hWe⟩ : ∃ W, W1.setCell ⟨gq, j, none⟩ (.int .u64 (g : Int)) = W := ⟨_, rfl⟩
      rw [hWe]
      replace HD := Lib.hid (show DMem w W2 gu gv gq xs.length D n vs us (os.set j g) by rw [← hWe]; exact HD.out.setq (by omega) hgW)
      clear hcq hfq hWe
      have hcq := later_cell (HD.out.ro.cell (k := j) (by rw [HD.out.lo]; omega))
      rw [getD_set_at (by rw [← List.length_set (i := j) (a := g), HD.out.lo]; omega)] at hcq
      have jI2 : (j : Int) ≤ (xs.length : Int) + 1 := by have := HL1.out.1; omega
      have jI3 : ¬ (xs.length + 1 = j) := by have := HL1.out.1; omega
      refine wp_region_stages (fun w' => ∃ δ : Later Nix W2, w' = δ.world) [(false, 0), (false, 1), (false, 2), (false, 3), (false, 4), (false, 5), (false, 6), (false, 7)] 8 [.reads [_, _, _, _, _, _, _, _]] [_, _] (by kernel_rfl) (by kernel_rfl) rfl rfl ?_ ?_
      · exact ⟨⟨_, nix_drawn W2⟩, rfl⟩
      refine wpStages_reads ?_
      repeat (go_big_quiet_step (fail))
      refine wpQuiet_nil ?_
      refine wpStages_nil ?_
      go_wp2_with fail
      have HTK := Lib.hid (divide_take gu j (xs.length + 1 - j) (xs.length + 1 - j) (n + 1) (lb + 1) g us (some ⟨gv, 0, none⟩) vs (W2.drewN 1) (HD.out.ru.drewN 1) (HD.out.rv.drewN 1).lim' (fun ad e => by injection e with e; subst e; exact (Nat.ne_of_lt HD.out.ne1).symm) HVS.out (by rw [HD.out.lu]; have := HL1.out.1; omega) (by have := HL1.out.1; omega) (by rw [HD.out.lu]; have := HL1.out.2; omega) hgW)
      have HN1 := Lib.hid (show lb + 1 + 1 = n from HN.out)
      rw [HN1.out] at HTK
      refine HTK.out.mono ?_
      rintro e w1 ⟨b, us1, rfl, hb1, hrow1, hl1, htk, hdr, hv, hgr⟩
      replace HD := Lib.hid (HD.out.grown (grownBy_trans (drew_grown W2 1 _) hgr) hrow1 hl1)
      have HCASE := Lib.hid (long_taken (q := g) HSM.out HD.out.rv.small HVS.out HV0.out HVV.out.1 HVV.out.2 HUL.out HS.out HU.out HG.out hl1 htk hdr hv hb1)
      clear HTK hb1 hrow1 hl1 htk hdr hv hgr hcq jI2 jI3
      rcases HCASE.out with ⟨rfl, hgiv⟩ | ⟨rfl, hgiv⟩
      · have HGV := Lib.hid (long_given HSM.out HVV.out.1 HVV.out.2 HUL.out HJO.out HS.out hgiv)
        clear hgiv
        go_wp2_with fail
        exact ⟨⟨j, us1, _, by omega, by go_num, HD, HGV⟩, by simp [intOf]⟩
      · have HGI := Lib.hid hgiv
        clear hgiv
        go_wp2_with fail
        obtain ⟨wo, hwo⟩ : ∃ wo : World, wo = w1 := ⟨_, rfl⟩
        subst hwo
        go_loopg [] g (fun gk wr => ∃ us2 : List Nat, Hid (DMem w wr gu gv gq xs.length D n vs us2 (os.set j gk)) ∧ Hid (Giving us us2 j lb V gk) ∧ Hid (gk < W64))
        case atStart => exact ⟨us1, HD, HGI, Lib.hid hgW⟩
        case round =>
          clear HD HGI HCASE
          obtain ⟨us2, HD, HGI, HGW⟩ := hrel
          have jI2 : (j : Int) ≤ (xs.length : Int) + 1 := by have := HL1.out.1; omega
          have jI3 : ¬ (xs.length + 1 = j) := by have := HL1.out.1; omega
          go_wp2_with fail
          have HTK := Lib.hid (divide_give gu j (xs.length + 1 - j) (xs.length + 1 - j) (n + 1) (lb + 1) us2 (some ⟨gv, 0, none⟩) vs wr HD.out.ru HD.out.rv.lim' (fun ad e => by injection e with e; subst e; exact (Nat.ne_of_lt HD.out.ne1).symm) HVS.out (by rw [HD.out.lu]; have := HL1.out.1; omega) (by have := HL1.out.1; omega) (by rw [HD.out.lu]; have := HL1.out.2; omega))
          rw [HN1.out] at HTK
          refine HTK.out.mono ?_
          rintro e w2 ⟨v, c, us3, rfl, hc1, hrow1, hl1, htk, hdr, hv, hgr⟩
          have HSM2 := Lib.hid HD.out.ru.small
          replace HD := Lib.hid (HD.out.grown hgr hrow1 hl1)
          rw [HV0.out] at hv
          have hstep := HGI.out.step HSM2.out HD.out.ru.small HUL.out HVV.out.2 hl1 htk hdr hv hc1
          have hq1 := HGI.out.pos HSM2.out HUL.out
          have HSTEP := Lib.hid hstep
          obtain ⟨q, rfl⟩ : ∃ q, gk = q + 1 := ⟨gk - 1, by omega⟩
          rw [Nat.add_sub_cancel] at HSTEP
          have hcq := HD.out.ro.cell (k := j) (by rw [HD.out.lo]; omega)
          have hfq := HD.out.ro.free j
          rw [getD_set_at HJO.out, Int.natCast_add, Int.natCast_one] at hcq
          have hqW := HGW.out
          have HQ := Lib.hid (HD.out.setq (j := j) (g := q) (by omega) (by omega))
          rw [List.set_set] at HQ
          clear HTK hc1 hrow1 hl1 htk hdr hv hgr hstep hq1 jI2 jI3
          have hqI : (q : Int) + 1 ≤ 18446744073709551615 := by have := lt_W64 hqW; omega
          clear hqW
          go_upto_region 12 with (fail)
          obtain ⟨w3, hw3⟩ : ∃ W, w2.setCell ⟨gq, j, none⟩ (.int .u64 (q : Int)) = W := ⟨_, rfl⟩
          rw [hw3] at HQ ⊢
          clear hw3 HD hqI hcq hfq
          have hcx := HQ.out.ru.cell (k := j + (lb + 2)) (by rw [HQ.out.lu]; have := HL1.out.1; omega)
          obtain ⟨x, hx⟩ : ∃ x, us3.getD (j + (lb + 2)) 0 = x := ⟨_, rfl⟩
          rw [hx] at hcx HSTEP
          rw [HN.out] at hcx
          clear hx
          have i2 : (j : Int) + (n : Int) < (xs.length : Int) + 1 := by have := HL1.out.1; have := HN.out; omega
          rcases HSTEP.out with ⟨hx, hgiv⟩ | ⟨hx, hgiv⟩
          · have hx0 : ((x : Int) == 0) = false := beq_eq_false_iff_ne.2 (by omega)
            have HGI2 := Lib.hid hgiv
            clear hgiv hx
            go_wp2_with fail
            go_roundg q
            case measure => omega
            case rel => exact ⟨us3, HQ, HGI2, Lib.hid (Nat.lt_of_succ_lt HGW.out)⟩
          · subst hx
            have HGV := Lib.hid (long_given HSM.out HVV.out.1 HVV.out.2 HUL.out HJO.out HS.out hgiv)
            clear hgiv
            go_wp2_with fail
            exact ⟨⟨j, us3, _, by omega, by go_num, HQ, HGV⟩, by simp [intOf]⟩
end Go.Proofs.YtonbhpadoplpkaaGreat
/- The package limb: told, Neg, Of, sizes, Cmp, Add, Sub. -/
namespace Go.Proofs.YtonbhpadoplpkaaGreat
open Go.RowKit Go.Deep
/-- What is told of a sign and a size. -/
def toldF (neg : Bool) (n : Nat) : Raw × Int := if 4096 < lc n then ((false, []), 3) else (rawOf (signed neg n), 0)
theorem rawOf_signed (neg : Bool) (n : Nat) : rawOf (signed neg n) = (neg && decide (n ≠ 0), limbs n) := by
  unfold rawOf
  rw [signed_neg, signed_natAbs]
theorem clip_limbs (A : Option Addr) (l c : Nat) (w : World) (hc : l ≤ c) :
    Calls Tryz.prog 124 #[.slice A l c] w fun e w' => e = .returned (.slice A l l) ∧ w = w' := by
  go_enter Tryz.func124, Tryz.ntmps124
  go_wp2_with fail
  go_ret
  exact ⟨rfl, rfl⟩
set_option maxRecDepth 100000 in
theorem limb_told (neg : Bool) (A : Option Addr) (c base : Nat) (xs : List Nat) (w : World) (h : Lim w w.heap.size A xs) (hf : Fresh w base A c) (hc : xs.length ≤ c) (hl : xs.length ≤ 1099511627776) :
    Calls Tryz.prog 86 #[.bool neg, .slice A xs.length c] w fun e w' => ∃ v, e = .returned (.tuple #[v, .int .i64 (toldF neg (val xs)).2]) ∧ RawAt w' base v (toldF neg (val xs)).1 ∧ Below w.heap.size w w' := by
  have HF := Lib.hid hf
  have HC := Lib.hid hc
  clear hf hc
  have HE := Lib.hid (trimL_eq h.small)
  obtain ⟨V, hV⟩ : ∃ V, val xs = V := ⟨_, rfl⟩
  rw [hV] at HE ⊢
  have HV := Lib.hid hV
  clear hV
  go_enter Tryz.func86, Tryz.ntmps86
  go_wp2_with fail
  obtain ⟨W0, r, hW, hr, br, hbw, hsz⟩ := box_new w (.bool false) (.slice none 0 0)
  have h0 : Lim W0 r A xs := (hr ▸ h).below hbw
  have HW := Lib.hid (show w.heap.size = r from hr)
  have HH := Lib.hid h
  rw [hW, hr]
  clear hW hr h
  have d0 := br.cell0
  have d1 := br.cell1
  have fr := br.free
  go_loop [1] (fun v => ∃ n : Nat, n ≤ xs.length ∧ v = .slice A n c ∧ trimL (xs.take n) = trimL xs) (fun v => match v with | .slice _ n _ => n | _ => 0)
  case atStart => exact ⟨xs.length, Nat.le_refl _, rfl, by simp⟩
  case round =>
    obtain ⟨n, hn, rfl, ht⟩ := hrel
    have HT := Lib.hid ht
    clear ht
    rcases n with _ | n
    · have HZ := Lib.hid (show toldF neg V = ((false, []), 0) by
        have h1 := HE.out
        rw [← HT.out] at h1
        have h2 : V = 0 := limbs_eq_nil.1 (by rw [← h1]; rfl)
        subst h2
        unfold toldF
        rw [if_neg (by rw [lc_zero]; omega), rawOf_signed, limbs_zero]
        simp)
      go_wp2_with fail
      refine bodyPost_ret (v := .tuple #[.agg #[.bool false, (.slice none 0 0)], (.int .i64 0)]) (by
        rw [results_cell_tmp rfl]
        have hld := run_loadVar_row (P := Tryz.prog) _ r 24 24 #[.bool false, (.slice none 0 0)] (0, 0) _ br.store Tryz.underlying24 rfl (by kernel_rfl)
        simp [asAddr, Result.andThen, hld]) rfl ?_
      rw [HZ.out]
      exact ⟨_, rfl, RawAt.zero _ _, by rw [HW.out]; exact store2_below hbw (Nat.le_refl _)⟩
    · obtain ⟨ad, hAd, hb, hcell⟩ := h0.at_ (k := n) (by omega)
      subst hAd
      obtain ⟨x, hx⟩ : ∃ x, xs.getD n 0 = x := ⟨_, rfl⟩
      rw [hx] at hcell
      have HX := Lib.hid hx
      clear hx
      have hnc : ((n + 1 : Nat) : Int) - 1 = (n : Int) := by omega
      have hb0 : (0 : Int) < ((n + 1 : Nat) : Int) := by omega
      have hb1 : (n : Int) < ((n + 1 : Nat) : Int) := by omega
      have hb2 : (n : Int) ≤ ((n + 1 : Nat) : Int) := by omega
      have hncc : n ≤ c := by have := HC.out; omega
      by_cases hx0 : x = 0
      · have t0 : ((x : Int) == 0) = true := by simp [hx0]
        have HS := Lib.hid (show trimL (xs.take n) = trimL xs by rw [← HT.out, trimL_zero xs n (by omega) (by have := HX.out; omega)])
        clear hx0
        go_wp2_with fail
        exact ⟨⟨n, by omega, rfl, HS.out⟩, by simp⟩
      · have t0 : ((x : Int) == 0) = false := beq_eq_false_iff_ne.2 (by omega)
        have HL := Lib.hid (show xs.take (n + 1) = limbs V by rw [← HE.out, ← HT.out, trimL_pos xs n (by omega) (by have := HX.out; omega)])
        have HLN := Lib.hid (show lc V = n + 1 by
          unfold lc
          rw [← HL.out, List.length_take]; omega)
        have HN1 := Lib.hid (show n + 1 ≤ xs.length from hn)
        clear hx0
        by_cases hlong : n + 1 ≤ 4096
        · have hlI : ((n + 1 : Nat) : Int) ≤ 4096 := by omega
          have hz : (((n + 1 : Nat) : Int) == 0) = false := beq_eq_false_iff_ne.2 (by omega)
          have HZ := Lib.hid (show toldF neg V = ((neg, limbs V), 0) by
            unfold toldF
            rw [if_neg (by rw [HLN.out]; omega), rawOf_signed]
            have h0 : V ≠ 0 := fun e => by
              have := HLN.out
              rw [e, lc_zero] at this
              omega
            rw [decide_eq_true h0, Bool.and_true])
          clear hlong
          go_wp2_with fail
          refine (clip_limbs _ _ _ _ (by have := HC.out; omega)).mono ?_
          rintro e w1 ⟨rfl, rfl⟩
          go_wp2_with fail
          refine bodyPost_ret (v := .tuple #[.agg #[.bool neg, (.slice (some ad) (n + 1) (n + 1))], (.int .i64 0)]) (by
            rw [results_cell_tmp rfl]
            have hld := run_loadVar_row (P := Tryz.prog) _ r 24 24 #[.bool neg, (.slice (some ad) (n + 1) (n + 1))] (0, 0) _ br.store Tryz.underlying24 rfl (by kernel_rfl)
            simp [asAddr, Result.andThen, hld]) rfl ?_
          rw [HZ.out]
          have hlim := HH.out.take (n + 1)
          rw [HL.out] at hlim
          exact ⟨_, rfl, RawAt.of (x := (neg, limbs V)) hlim (HF.out.cut (by have := HC.out; have := HN1.out; omega)) (by rw [← HLN.out]; rfl) (Nat.le_refl _) (by rw [HW.out]; exact store2_below hbw (Nat.le_refl _)), by rw [HW.out]; exact store2_below hbw (Nat.le_refl _)⟩
        · have hlI : (4096 : Int) < ((n + 1 : Nat) : Int) := by omega
          have HZ := Lib.hid (show toldF neg V = ((false, []), 3) by
            unfold toldF
            rw [if_pos (by rw [HLN.out]; omega)])
          clear hlong
          go_wp2_with fail
          refine bodyPost_ret (v := .tuple #[.agg #[.bool false, (.slice none 0 0)], (.int .i64 3)]) (by
            rw [results_cell_tmp rfl]
            have hld := run_loadVar_row (P := Tryz.prog) _ r 24 24 #[.bool false, (.slice none 0 0)] (0, 0) _ br.store Tryz.underlying24 rfl (by kernel_rfl)
            simp [asAddr, Result.andThen, hld]) rfl ?_
          rw [HZ.out]
          exact ⟨_, rfl, RawAt.zero _ _, by rw [HW.out]; exact store2_below hbw (Nat.le_refl _)⟩
theorem told_right {neg : Bool} {n : Nat} (h : lc n ≤ 4096) : toldF neg n = (rawOf (signed neg n), 0) := by
  unfold toldF
  rw [if_neg (by omega)]
set_option maxRecDepth 100000 in
theorem limb_Neg (v : Value) (z : Int) (w : World) (h : IntV w v z) (hl : lc z.natAbs ≤ 4096) :
    Calls Tryz.prog 64 #[v] w fun e w' => ∃ v', e = .returned (.tuple #[v', .int .i64 0]) ∧ RawAt w' w.heap.size v' (rawOf (-z)) ∧ Below w.heap.size w w' := by
  obtain ⟨A, l, c, rfl, hll, hc, hlim⟩ := h
  have HR := Lib.hid (right_of hl)
  have HLL := Lib.hid hll
  have HC := Lib.hid hc
  have HL := Lib.hid hl
  have HLIM := Lib.hid hlim
  have hlI : (l : Int) ≤ 4096 := by unfold lc at hl; omega
  clear hll hc hl
  obtain ⟨s, hs⟩ : ∃ s, decide (z < 0) = s := ⟨_, rfl⟩
  have HS := Lib.hid hs
  rw [hs]
  clear hs
  go_enter Tryz.func64, Tryz.ntmps64
  go_wp2_with fail
  obtain ⟨W0, g, r, hW, hg, hr, hgr, bx, br, hbw, hsz⟩ := box_two w (.bool s) (.slice A l c) (.bool false) (.slice none 0 0)
  have HW := Lib.hid (show w.heap.size = g from hg)
  rw [hW, hr, hg]
  have h0 := (hg ▸ hlim : Lim w g A (limbs z.natAbs)).below hbw
  clear hW hr hg hlim
  refine (limb_right s A l c (limbs z.natAbs) W0 (by omega) h0 HLL.out).mono ?_
  rintro e w1 ⟨rfl, hb1⟩
  rw [← HS.out, HR.out, HS.out]
  have bx1 := bx.below hb1 bx.lt
  have br1 := br.below hb1 br.lt
  have hbw1 : Below g w w1 := below_then hbw (by omega) hb1
  have hbw1' : Below g W0 w1 := hb1.mono (by omega)
  have hlim1 := (h0.below hbw1').more (show g ≤ w1.heap.size by have := hb1.size; omega)
  have r0 := later_cell bx1.cell0
  have r1 := later_cell bx1.cell1
  have HLIM1 := Lib.hid hlim1
  have BR1 := Lib.hid br1
  have HBW1 := Lib.hid hbw1
  clear h0 hlim1 br br1 bx bx1 hb1 hbw hbw1
  go_wp2_with fail
  refine wp_region_stages (fun w' => ∃ δ : Later Nix w1, w' = δ.world) [(false, 0), (false, 1), (false, 2), (false, 3), (false, 4), (true, 5), (true, 6), (false, 7), (false, 8)] 9 [.reads [_, _, _, _, _], .loud _, .loud _, .reads [_, _]] [_, _] (by kernel_rfl) (by kernel_rfl) rfl rfl ?_ ?_
  · exact ⟨⟨_, nix_drawn w1⟩, rfl⟩
  refine wpStages_reads ?_
  repeat (go_big_quiet_step (fail))
  refine wpQuiet_nil ?_
  refine wpStages_loud rfl ?_
  intro K hK
  go_big_op
  rw [HLL.out]
  refine (clone_own A c (limbs z.natAbs) (w1.drewN 1) (Nat.le_refl _) (HLIM1.out.drewN 1) (by rw [← HLL.out]; exact HC.out) (by have := HL.out; unfold lc at this; omega)).mono ?_
  rintro e w2 ⟨A', c', rfl, hc', hlim', hfr, hb⟩
  have he : Ext Nix w1 w2 := (nix_drawn w1).later (Ext.of_below hb)
  refine hK _ _ ⟨⟨w2, he⟩, rfl⟩ ?_
  clear hK K
  refine wpStages_loud rfl ?_
  intro K hK
  go_big_op
  refine (limb_told (!s) A' c' _ (limbs z.natAbs) w2 hlim' hfr hc' (by have := HL.out; unfold lc at this; omega)).mono ?_
  rintro e w3 ⟨v, rfl, hv, hb3⟩
  have he3 : Ext Nix w1 w3 := he.later (Ext.of_below hb3)
  refine hK _ _ ⟨⟨w3, he3⟩, rfl⟩ ?_
  clear hK K
  rw [val_limbs, told_right HL.out] at hv ⊢
  obtain ⟨b3, A3, l3, c3, rfl, HV⟩ := hv.open
  clear hv
  refine wpStages_reads ?_
  repeat (go_big_quiet_step (fail))
  refine wpQuiet_nil ?_
  refine wpStages_nil ?_
  have hb13 : Below w1.heap.size w1 w3 := Ext.below (he3.mono (fun _ _ h => h) (fun _ h => h.elim))
  have br3 := BR1.out.below hb13 BR1.out.lt
  have d0 := br3.cell0
  have d1 := br3.cell1
  have fr := br3.free
  go_wp2_with fail
  refine bodyPost_ret (v := .tuple #[.agg #[.bool b3, (.slice A3 l3 c3)], (.int .i64 0)]) (by
    rw [results_cell_tmp rfl]
    have hld := run_loadVar_row (P := Tryz.prog) _ r 24 24 #[.bool b3, (.slice A3 l3 c3)] (0, 0) _ br3.store Tryz.underlying24 rfl (by kernel_rfl)
    simp [asAddr, Result.andThen, hld]) rfl ?_
  have HSG := signed_not z
  rw [HS.out] at HSG
  have hbF : Below g w w3 := below_then HBW1.out (by have := HW.out; have := HBW1.out.size; omega) hb13
  have hbl := BR1.out.lt
  have hv := HV.out.ext (ext_store2 (a := .bool b3) (b := .slice A3 l3 c3) br3.nums) (fun i hi => by subst hi; exact hbl)
  rw [HSG] at hv
  exact ⟨_, rfl, hv.since (by have := HW.out; have h : (w1.drewN 1).heap.size = w1.heap.size := rfl; omega), by rw [HW.out]; exact store2_below hbF (by omega)⟩
set_option maxRecDepth 100000 in
theorem limb_sizes (A1 A2 : Option Addr) (l1 l2 c1 c2 m n : Nat) (w : World) {B : Nat} (h1 : Lim w B A1 (limbs m)) (h2 : Lim w B A2 (limbs n)) (e1 : l1 = (limbs m).length) (e2 : l2 = (limbs n).length) (hl : l1 ≤ 35184372088832) (hl2 : l2 ≤ 35184372088832) :
    Calls Tryz.prog 82 #[.slice A1 l1 c1, .slice A2 l2 c2] w fun e w' => ∃ r : Int, e = .returned (.int .i64 r) ∧ ((r < 0 ↔ m < n) ∧ (0 < r ↔ n < m)) ∧ ∃ q, w' = w.drewN q := by
  have hm : val (limbs m) = m := val_limbs m
  have hn : val (limbs n) = n := val_limbs n
  have hlc1 : lc m = (limbs m).length := rfl
  have hlc2 : lc n = (limbs n).length := rfl
  generalize limbs m = xs at *
  generalize limbs n = ys at *
  by_cases heq : l1 = l2
  · subst heq
    have t0 : ((l1 : Int) != (l1 : Int)) = false := by simp
    have HM := Lib.hid hm
    have HN := Lib.hid hn
    have HE1 := Lib.hid e1
    have HE2 := Lib.hid e2
    clear hm hn hlc1 hlc2 e1 e2
    go_enter Tryz.func82, Tryz.ntmps82
    go_wp2_with fail
    go_loopw [20] (fun i wr => ∃ k j : Nat, k + j = l1 ∧ i = .int .i64 (j : Int) ∧ xs.drop k = ys.drop k ∧ ∃ q, wr = w.drewN q) (fun i _ => l1 - (intOf i).toNat)
    case atStart => exact ⟨l1, 0, by omega, rfl, by rw [List.drop_of_length_le (by rw [HE1.out]; omega), List.drop_of_length_le (by rw [HE2.out]; omega)], 0, rfl⟩
    case round =>
      obtain ⟨k, j, hkj, rfl, hd, q, rfl⟩ := hrel
      have HD := Lib.hid hd
      clear hd
      rcases k with _ | k
      · have hj : ¬ ((j : Int) < (l1 : Int)) := by omega
        go_wp2_with fail
        go_ret
        have e : xs = ys := by simpa using HD.out
        have e2 : m = n := by rw [← HM.out, ← HN.out, e]
        exact ⟨0, rfl, by omega, q, rfl⟩
      · obtain ⟨ad, rfl, hb, hcell⟩ := h1.at_ (k := k) (by rw [← HE1.out]; omega)
        obtain ⟨ad2, rfl, hb2, hcell2⟩ := h2.at_ (k := k) (by rw [← HE2.out]; omega)
        obtain ⟨x, hx⟩ : ∃ x, xs.getD k 0 = x := ⟨_, rfl⟩
        obtain ⟨y, hy⟩ : ∃ y, ys.getD k 0 = y := ⟨_, rfl⟩
        rw [hx] at hcell
        rw [hy] at hcell2
        have HX := Lib.hid hx
        have HY := Lib.hid hy
        clear hx hy
        have e3 : (l1 : Int) - 1 - (j : Int) = (k : Int) := by omega
        have b0 : (0 : Int) ≤ (k : Int) := by omega
        have b1 : (k : Int) < (l1 : Int) := by omega
        have b2 : (j : Int) < (l1 : Int) := by omega
        have hkl : k < l1 := by omega
        rcases Nat.lt_trichotomy x y with hxy | hxy | hxy
        · have HE := Lib.hid (show m < n by rw [← HM.out, ← HN.out]; exact val_lt_top h1.small h2.small (by rw [← HE1.out, ← HE2.out]) (by rw [← HE1.out]; omega) HD.out (by rw [HX.out, HY.out]; exact hxy))
          go_wp2_with fail
          go_quiet (fail)
          go_wp2_with fail
          go_ret
          have := HE.out
          exact ⟨-1, rfl, by omega, _, rfl⟩
        · subst hxy
          have HDS := Lib.hid (drop_same (xs := xs) (ys := ys) (by rw [← HE1.out, ← HE2.out]) (by rw [← HE1.out]; omega) HD.out (by rw [HX.out, HY.out]))
          go_wp2_with fail
          go_quiet (fail)
          go_wp2_with fail
          exact ⟨⟨k, j + 1, by omega, by go_num, HDS.out, _, rfl⟩, by simp [intOf]; omega⟩
        · have HE := Lib.hid (show n < m by rw [← HM.out, ← HN.out]; exact val_lt_top h2.small h1.small (by rw [← HE1.out, ← HE2.out]) (by rw [← HE2.out]; omega) HD.out.symm (by rw [HX.out, HY.out]; exact hxy))
          go_wp2_with fail
          go_quiet (fail)
          go_wp2_with fail
          go_ret
          have := HE.out
          exact ⟨1, rfl, by omega, _, rfl⟩
  · have t0 : ((l1 : Int) != (l2 : Int)) = true := by rw [bne_iff_ne]; omega
    have HQ := Lib.hid (show ((l1 : Int) - (l2 : Int) < 0 ↔ m < n) ∧ (0 < (l1 : Int) - (l2 : Int) ↔ n < m) by
      rcases Nat.lt_trichotomy l1 l2 with h | h | h
      · have := lc_lt (show lc m < lc n by omega)
        omega
      · omega
      · have := lc_lt (show lc n < lc m by omega)
        omega)
    clear hm hn hlc1 hlc2 e1 e2 heq
    go_enter Tryz.func82, Tryz.ntmps82
    go_wp2_with fail
    go_ret
    exact ⟨_, rfl, HQ.out, 0, rfl⟩
end Go.Proofs.YtonbhpadoplpkaaGreat
/- The package limb, on: Cmp, Add, Sub, Of. -/
namespace Go.Proofs.YtonbhpadoplpkaaGreat
open Go.RowKit Go.Deep
theorem cmpZ_case (x y : Int) (r : Int) (h : (r < 0 ↔ x.natAbs < y.natAbs) ∧ (0 < r ↔ y.natAbs < x.natAbs)) :
    cmpZ x y = if (decide (x < 0) != decide (y < 0) && decide (x < 0) || decide (x < 0) == decide (y < 0) && decide (x < 0) && decide (0 < r) || decide (x < 0) == decide (y < 0) && !decide (x < 0) && decide (r < 0)) then -1 else if decide (x < 0) == decide (y < 0) && r == 0 then 0 else 1 := by
  unfold cmpZ
  by_cases h1 : x < 0 <;> by_cases h2 : y < 0 <;> simp [h1, h2] <;> grind
set_option maxRecDepth 100000 in
theorem limb_Cmp (u v : Value) (x y : Int) (w : World) (hx : IntV w u x) (hy : IntV w v y) (lx : lc x.natAbs ≤ 4096) (ly : lc y.natAbs ≤ 4096) :
    Calls Tryz.prog 67 #[u, v] w fun e w' => e = .returned (.tuple #[.int .i64 (cmpZ x y), .int .i64 0]) ∧ Below w.heap.size w w' := by
  obtain ⟨A1, l1, c1, rfl, hl1, hc1, hlim1⟩ := hx
  obtain ⟨A2, l2, c2, rfl, hl2, hc2, hlim2⟩ := hy
  have HR1 := Lib.hid (right_of lx)
  have HR2 := Lib.hid (right_of ly)
  have HL1 := Lib.hid hl1
  have HL2 := Lib.hid hl2
  have hI1 : (l1 : Int) ≤ 4096 := by unfold lc at lx; omega
  have hI2 : (l2 : Int) ≤ 4096 := by unfold lc at ly; omega
  have HX := Lib.hid lx
  have HY := Lib.hid ly
  clear hl1 hl2 lx ly
  obtain ⟨s1, hs1⟩ : ∃ s, decide (x < 0) = s := ⟨_, rfl⟩
  obtain ⟨s2, hs2⟩ : ∃ s, decide (y < 0) = s := ⟨_, rfl⟩
  have HS1 := Lib.hid hs1
  have HS2 := Lib.hid hs2
  rw [hs1, hs2]
  clear hs1 hs2
  go_enter Tryz.func67, Tryz.ntmps67
  go_wp2_with fail
  obtain ⟨W0, g, h, hW, hg, hr, hgr, bx, by_, hbw, hsz⟩ := box_two w (.bool s1) (.slice A1 l1 c1) (.bool s2) (.slice A2 l2 c2)
  have HW := Lib.hid (show w.heap.size = g from hg)
  rw [hW, hr, hg]
  have k1 := ((hg ▸ hlim1 : Lim w g A1 (limbs x.natAbs)).below hbw)
  have k2 := ((hg ▸ hlim2 : Lim w g A2 (limbs y.natAbs)).below hbw)
  clear hW hr hg hlim1 hlim2
  refine (limb_right s1 A1 l1 c1 (limbs x.natAbs) W0 (by omega) k1 HL1.out).mono ?_
  rintro e w1 ⟨rfl, hb1⟩
  rw [← HS1.out, HR1.out, HS1.out]
  have hb1 : Below g W0 w1 := hb1.mono (by omega)
  have hbw1 := hbw.trans hb1
  have k1 := k1.below hb1
  have k2 := k2.below hb1
  have bx := bx.below (B := W0.heap.size) (by assumption) bx.lt
  have by_ := by_.below (B := W0.heap.size) (by assumption) by_.lt
  have a0 := bx.cell0
  have a1 := bx.cell1
  have b0 := by_.cell0
  have b1 := by_.cell1
  go_wp2_with fail
  refine (limb_right s2 A2 l2 c2 (limbs y.natAbs) w1 (by have := hb1.size; omega) k2 HL2.out).mono ?_
  rintro e w2 ⟨rfl, hb2⟩
  rw [← HS2.out, HR2.out, HS2.out]
  have bx := bx.below hb2 bx.lt
  have by_ := by_.below hb2 by_.lt
  have hbw2 := hbw1.trans (hb2.mono (by have := hb1.size; omega))
  have k1 := k1.below (hb2.mono (by have := hb1.size; omega))
  have k2 := k2.below (hb2.mono (by have := hb1.size; omega))
  have a0 := bx.cell0
  have a1 := bx.cell1
  have b0 := by_.cell0
  have b1 := by_.cell1
  go_wp2_with fail
  refine (limb_sizes A1 A2 l1 l2 c1 c2 x.natAbs y.natAbs w2 k1 k2 HL1.out HL2.out (by omega) (by omega)).mono ?_
  rintro e w3 ⟨q, rfl, hq, n, rfl⟩
  have HC := Lib.hid (cmpZ_case x y q hq)
  rw [HS1.out, HS2.out] at HC
  have hF : Below w.heap.size w (w2.drewN n) := by rw [HW.out]; exact below_drewN hbw2 n
  have HF := Lib.hid hF
  have a0 : (w2.drewN n).cell? ⟨g, 0, none⟩ = some (.bool s1) := a0
  have b0 : (w2.drewN n).cell? ⟨h, 0, none⟩ = some (.bool s2) := b0
  clear hF hbw2 k1 k2 hbw1 hb1 hb2
  rcases Int.lt_trichotomy q 0 with hq0 | hq0 | hq0
  · have HQ := Lib.hid hq0
    have q1 : ¬ (0 < q) := by omega
    have q2 : (q == 0) = false := beq_eq_false_iff_ne.2 (by omega)
    clear hq
    cases s1 <;> cases s2
    all_goals
      have HZ := Lib.hid (HC.out.trans (by simp [HQ.out, q1, q2]; rfl) : cmpZ x y = _)
      go_wp2_with fail
      go_ret2
      rw [HZ.out]
      exact ⟨rfl, HF.out⟩
  · subst hq0
    clear hq
    cases s1 <;> cases s2
    all_goals
      have HZ := Lib.hid (HC.out.trans (by simp; rfl) : cmpZ x y = _)
      go_wp2_with fail
      go_ret2
      rw [HZ.out]
      exact ⟨rfl, HF.out⟩
  · have HQ := Lib.hid hq0
    have q1 : ¬ (q < 0) := by omega
    have q2 : (q == 0) = false := beq_eq_false_iff_ne.2 (by omega)
    clear hq
    cases s1 <;> cases s2
    all_goals
      have HZ := Lib.hid (HC.out.trans (by simp [HQ.out, q1, q2]; rfl) : cmpZ x y = _)
      go_wp2_with fail
      go_ret2
      rw [HZ.out]
      exact ⟨rfl, HF.out⟩
set_option maxRecDepth 100000 in
theorem limb_behind1 (i h l c : Nat) (A : Option Addr) (xs : List Nat) (w : World) {B : Nat} (hb : w.cell? ⟨h, 0, none⟩ = some (.slice A l c)) (h1 : Lim w B A xs) (hl : l = xs.length) (_hlI : (l : Int) ≤ 4096) :
    Calls Tryz.prog 123 #[.int .i64 (i : Int), .pointer (some ⟨h, 0, none⟩)] w fun e w' => e = .returned (.int .u64 ((xs.getD i 0 : Nat) : Int)) ∧ w = w' := by
  by_cases hi : i < l
  · obtain ⟨ad, rfl, _, hcell⟩ := h1.at_ (k := i) (by omega)
    obtain ⟨x, hx⟩ : ∃ x, xs.getD i 0 = x := ⟨_, rfl⟩
    rw [hx] at hcell ⊢
    have hI : (i : Int) < (l : Int) := by omega
    clear hx hl
    go_enter Tryz.func123, Tryz.ntmps123
    go_wp2_with fail
    go_ret
    exact ⟨rfl, rfl⟩
  · have hI : ¬ ((i : Int) < (l : Int)) := by omega
    rw [show xs.getD i 0 = 0 by simp [show xs.length ≤ i by omega]]
    clear hl hi
    go_enter Tryz.func123, Tryz.ntmps123
    go_wp2_with fail
    go_ret
    exact ⟨rfl, rfl⟩
set_option maxRecDepth 100000 in
theorem limb_behind (A : Option Addr) (l c : Nat) (w : World) : Calls Tryz.prog 83 #[.slice A l c] w fun e w' => e = .returned (.func (.func 123) #[] #[.pointer (some ⟨w.heap.size, 0, none⟩)]) ∧ w' = w.alloc (.cells #[.slice A l c] 22) := by
  go_enter Tryz.func83, Tryz.ntmps83
  go_wp2_with fail
  go_ret
  exact ⟨rfl, rfl⟩
end Go.Proofs.YtonbhpadoplpkaaGreat
/- The package limb, on: Add, Sub, Of. -/
namespace Go.Proofs.YtonbhpadoplpkaaGreat
open Go.RowKit Go.Deep
/-- What is told of a whole number: it, or that it is too long. -/
def longR (z : Int) : Raw := if 4096 < lc z.natAbs then (false, []) else rawOf z
def longE (z : Int) : Int := if 4096 < lc z.natAbs then 3 else 0
theorem longR_ok {z : Int} (h : lc z.natAbs ≤ 4096) : longR z = rawOf z := by unfold longR; rw [if_neg (by omega)]
theorem longE_ok {z : Int} (h : lc z.natAbs ≤ 4096) : longE z = 0 := by unfold longE; rw [if_neg (by omega)]
theorem toldF_signed {neg : Bool} {n : Nat} {z : Int} (h : signed neg n = z) : toldF neg n = (longR z, longE z) := by
  subst h
  unfold longR longE
  rw [signed_natAbs]
  unfold toldF
  split <;> rfl
theorem limb_told' (neg : Bool) (A : Option Addr) (l c base : Nat) (xs : List Nat) (w : World) (h : Lim w w.heap.size A xs) (hf : Fresh w base A c) (hx : l = xs.length) (hc : l ≤ c) (hl : l ≤ 1099511627776) :
    Calls Tryz.prog 86 #[.bool neg, .slice A l c] w fun e w' => ∃ v, e = .returned (.tuple #[v, .int .i64 (toldF neg (val xs)).2]) ∧ RawAt w' base v (toldF neg (val xs)).1 ∧ Below w.heap.size w w' := by
  subst hx
  exact limb_told neg A c base xs w h hf hc hl
set_option maxHeartbeats 1000000 in
set_option maxRecDepth 100000 in
theorem limb_Add (u v : Value) (x y : Int) (w : World) (hx : IntV w u x) (hy : IntV w v y) (lx : lc x.natAbs ≤ 4096) (ly : lc y.natAbs ≤ 4096) :
    Calls Tryz.prog 41 #[u, v] w fun e w' => ∃ v', e = .returned (.tuple #[v', .int .i64 (longE (x + y))]) ∧ RawAt w' w.heap.size v' (longR (x + y)) ∧ Below w.heap.size w w' := by
  obtain ⟨A1, l1, c1, rfl, hl1, hc1, hlim1⟩ := hx
  obtain ⟨A2, l2, c2, rfl, hl2, hc2, hlim2⟩ := hy
  have HR1 := Lib.hid (right_of lx)
  have HR2 := Lib.hid (right_of ly)
  have HL1 := Lib.hid hl1
  have HL2 := Lib.hid hl2
  have hI1 : (l1 : Int) ≤ 4096 := by unfold lc at lx; omega
  have hI2 : (l2 : Int) ≤ 4096 := by unfold lc at ly; omega
  have HX := Lib.hid lx
  have HY := Lib.hid ly
  clear hl1 hl2 lx ly
  obtain ⟨s1, hs1⟩ : ∃ s, decide (x < 0) = s := ⟨_, rfl⟩
  obtain ⟨s2, hs2⟩ : ∃ s, decide (y < 0) = s := ⟨_, rfl⟩
  have HS1 := Lib.hid hs1
  have HS2 := Lib.hid hs2
  rw [hs1, hs2]
  clear hs1 hs2
  go_enter Tryz.func41, Tryz.ntmps41
  go_wp2_with fail
  obtain ⟨W0, g, h, r, hW, hg, hh, hr, hgr, bx, by_, br, hbw, hsz⟩ := box_three w (.bool s1) (.slice A1 l1 c1) (.bool s2) (.slice A2 l2 c2) (.bool false) (.slice none 0 0)
  have HW := Lib.hid (show w.heap.size = g from hg)
  rw [hW, hr, hh, hg]
  have k1 := ((hg ▸ hlim1 : Lim w g A1 (limbs x.natAbs)).below hbw)
  have k2 := ((hg ▸ hlim2 : Lim w g A2 (limbs y.natAbs)).below hbw)
  clear hW hr hg hh hlim1 hlim2
  refine (limb_right s1 A1 l1 c1 (limbs x.natAbs) W0 (by omega) k1 HL1.out).mono ?_
  rintro e w1 ⟨rfl, hb1⟩
  rw [← HS1.out, HR1.out, HS1.out]
  have bx := bx.below hb1 bx.lt
  have by_ := by_.below hb1 by_.lt
  have br := br.below hb1 br.lt
  have hbw1 := hbw.trans (hb1.mono (by omega))
  have k1 := k1.below (hb1.mono (by omega))
  have k2 := k2.below (hb1.mono (by omega))
  have hsz1 := hb1.size
  have a0 := bx.cell0
  have a1 := bx.cell1
  have b0 := by_.cell0
  have b1 := by_.cell1
  clear hb1
  go_wp2_with fail
  refine (limb_right s2 A2 l2 c2 (limbs y.natAbs) w1 (by omega) k2 HL2.out).mono ?_
  rintro e w2 ⟨rfl, hb2⟩
  rw [← HS2.out, HR2.out, HS2.out]
  have bx := bx.below hb2 bx.lt
  have by_ := by_.below hb2 by_.lt
  have br := br.below hb2 br.lt
  have hbw2 := hbw1.trans (hb2.mono (by omega))
  have k1 := k1.below (hb2.mono (by omega))
  have k2 := k2.below (hb2.mono (by omega))
  have hsz2 := hb2.size
  clear hb2 a0 a1 b0 b1 hbw1 hbw
  have a0 := bx.cell0
  have a1 := bx.cell1
  have b0 := by_.cell0
  have b1 := by_.cell1
  go_wp2_with fail
  refine (limb_sizes A1 A2 l1 l2 c1 c2 x.natAbs y.natAbs w2 k1 k2 HL1.out HL2.out (by omega) (by omega)).mono ?_
  rintro e w3 ⟨q, rfl, hq, n, rfl⟩
  have bx : Box2 (w2.drewN n) g (.bool s1) (.slice A1 l1 c1) := bx
  have by_ : Box2 (w2.drewN n) h (.bool s2) (.slice A2 l2 c2) := by_
  have br : Box2 (w2.drewN n) r (.bool false) (.slice none 0 0) := br
  have hbw3 := below_drewN hbw2 n
  have k1 := k1.drewN n
  have k2 := k2.drewN n
  have hsz3 : g + 3 ≤ (w2.drewN n).heap.size := by show g + 3 ≤ w2.heap.size; omega
  generalize w2.drewN n = w3 at bx by_ br hbw3 k1 k2 hsz3 ⊢
  clear a0 a1 b0 b1 hbw2 hsz1 hsz2 hsz
  have a0 := bx.cell0
  have a1 := bx.cell1
  have b0 := by_.cell0
  have b1 := by_.cell1
  have fa := bx.free
  have fb := by_.free
  have HB := Lib.hid hbw3
  have BR := Lib.hid br
  have BX := Lib.hid bx
  have BY := Lib.hid by_
  have HQ := Lib.hid hq
  have K1 := Lib.hid k1
  have K2 := Lib.hid k2
  clear hbw3 br bx by_ hq k1 k2 HR1 HR2
  go_upto_if 25 with (fail)
  go_cut [5] (fun s5 wx => s5 = .int .i64 0 ∧ ∃ (t1 t2 : Bool) (B1 B2 : Option Addr) (m1 m2 d1 d2 : Nat) (X Y : Nat), Box2 wx g (.bool t1) (.slice B1 m1 d1) ∧ Box2 wx h (.bool t2) (.slice B2 m2 d2) ∧ Box2 wx r (.bool false) (.slice none 0 0) ∧ Below g w wx ∧
    Lim wx g B1 (limbs X) ∧ Lim wx g B2 (limbs Y) ∧ m1 = lc X ∧ m2 = lc Y ∧ Y ≤ X ∧ lc X ≤ 4096 ∧ signed t1 X + signed t2 Y = x + y ∧ (Y = 0 → t2 = false))
  case first =>
    by_cases hq0 : q < 0
    · go_wp2_with fail
      go_meet
      have hle := (HQ.out.1.1 hq0)
      refine ⟨rfl, s2, s1, A2, A1, l2, l1, c2, c1, y.natAbs, x.natAbs, BX.out.store.far (by omega), (BY.out.far (by omega)).store, (BR.out.far (by omega)).far (by omega), store2_below (store2_below HB.out (Nat.le_refl _)) (by omega), ((K2.out.setCell (p := ⟨g, 0, none⟩) (Nat.le_refl _) _).setCell (p := ⟨g, 1, none⟩) (Nat.le_refl _) _).setCell (p := ⟨h, 0, none⟩) (by show g ≤ h; omega) _ |>.setCell (p := ⟨h, 1, none⟩) (by show g ≤ h; omega) _,
        ((K1.out.setCell (p := ⟨g, 0, none⟩) (Nat.le_refl _) _).setCell (p := ⟨g, 1, none⟩) (Nat.le_refl _) _).setCell (p := ⟨h, 0, none⟩) (by show g ≤ h; omega) _ |>.setCell (p := ⟨h, 1, none⟩) (by show g ≤ h; omega) _, HL2.out, HL1.out, by omega, HY.out, ?_, fun h0 => ?_⟩
      · rw [← HS1.out, ← HS2.out, signed_of, signed_of]; omega
      · rw [← HS1.out]; exact decide_eq_false (by omega)
    · go_wp2_with fail
      go_meet
      have hle : ¬ x.natAbs < y.natAbs := fun h => by have := HQ.out.1.2 h; omega
      refine ⟨rfl, s1, s2, A1, A2, l1, l2, c1, c2, x.natAbs, y.natAbs, BX.out, BY.out, BR.out, HB.out, K1.out, K2.out, HL1.out, HL2.out, by omega, HX.out, ?_, fun h0 => ?_⟩
      · rw [← HS1.out, ← HS2.out, signed_of, signed_of]
      · rw [← HS2.out]; exact decide_eq_false (by omega)
  case rest =>
  clear bx by_ br k1 k2 HB BR BX BY HQ K1 K2 hsz3
  obtain ⟨rfl, t1, t2, B1, B2, m1, m2, d1, d2, X, Y, bx, by_, br, hbw, k1, k2, hm1, hm2, hYX, hXl, hsum, h0⟩ := hcut
  have hmI : (m1 : Int) ≤ 4096 := by omega
  have HM1 := Lib.hid hm1
  have HM2 := Lib.hid hm2
  have HYX := Lib.hid hYX
  have HS := Lib.hid hsum
  have H0 := Lib.hid h0
  have hszg := by_.lt
  have hszr := br.lt
  have hmk := make_limbs_succ m1 (by omega)
  have a0 := bx.cell0
  have a1 := bx.cell1
  have b0 := by_.cell0
  have b1 := by_.cell1
  have HML := Lib.hid (show m2 ≤ m1 by rw [hm1, hm2]; exact lc_mono hYX)
  clear hm1 hm2 hYX hXl hsum h0
  go_wp2_with fail
  refine (limb_behind B2 m2 d2 _).mono ?_
  rintro e w5 ⟨rfl, rfl⟩
  have hex : ∃ (W : World) (O C : Nat), (wc.alloc (.cells (madeCells #[.int .u64 0] (m1 + 1)) 85)).alloc (.cells #[.slice B2 m2 d2] 22) = W ∧ wc.heap.size = O ∧ (wc.alloc (.cells (madeCells #[.int .u64 0] (m1 + 1)) 85)).heap.size = C ∧ C = O + 1 ∧ W.heap.size = O + 2 ∧ Row W O (List.replicate (m1 + 1) 0) ∧ Fresh W O (some ⟨O, 0, none⟩) (m1 + 1) ∧ W.cell? ⟨C, 0, none⟩ = some (.slice B2 m2 d2) ∧ Below O wc W := by
    refine ⟨_, _, _, rfl, rfl, rfl, by simp, by simp, (Row.made wc (m1 + 1)).alloc _, (Fresh.made wc (m1 + 1)).below ((Below.refl _ _).alloc (Nat.le_refl _) _), ?_, ((Below.refl _ _).alloc (Nat.le_refl _) _).alloc (by simp) _⟩
    rw [cell_of_row _ _ 0 #[.slice B2 m2 d2] 22 (0, 0) (heap_alloc_new _ _)]
    rfl
  obtain ⟨W5, O, C, hW5, hO, hC, hCO, hsz5, hrow0, hfr0, hcC, hb5⟩ := hex
  rw [hW5, hO, hC]
  have bx5 := bx.below hb5 (by have := bx.lt; omega)
  have by5 := by_.below hb5 (by omega)
  have br5 := br.below hb5 (by omega)
  have k1 := k1.below (hb5.mono (by omega))
  have k2 := k2.below (hb5.mono (by omega))
  have hbw5 : Below g w W5 := hbw.trans (hb5.mono (by omega))
  have hgO : g + 3 ≤ O := by omega
  have HCO := Lib.hid hCO
  clear hCO hW5 hO hC bx by_ br hbw a0 a1 b0 b1 hb5 hmk
  have a0 := bx5.cell0
  have a1 := bx5.cell1
  have b0 := by5.cell0
  have b1 := by5.cell1
  have HBX := Lib.hid bx5
  have HBY := Lib.hid by5
  have HBR := Lib.hid br5
  have HBW := Lib.hid hbw5
  have hXs := small_limbs X
  have hYs := small_limbs Y
  have hXv := val_limbs X
  have hYv := val_limbs Y
  have hm1 : m1 = (limbs X).length := HM1.out
  have hm2 : m2 = (limbs Y).length := HM2.out
  generalize limbs X = xs at *
  generalize limbs Y = ys at *
  have HM1 := Lib.hid hm1
  have HM2 := Lib.hid hm2
  have HXV := Lib.hid hXv
  have HYV := Lib.hid hYv
  clear hm1 hm2 hXv hYv bx5 by5 br5 hbw5
  by_cases hs : t1 = t2
  · subst hs
    have tt : (t1 == t1) = true := by simp
    have HSG := Lib.hid (show signed t1 (X + Y) = x + y by rw [← HS.out, signed_add_same])
    go_wp2_with fail
    go_loopw [8, 39] (fun t6 t23 wr => ∃ (k c : Nat) (os : List Nat), k ≤ m1 ∧ c ≤ 1 ∧ os.length = m1 + 1 ∧ t6 = .int .u64 (c : Int) ∧ t23 = .int .i64 (k : Int) ∧ Row wr O os ∧ Fresh wr O (some ⟨O, 0, none⟩) (m1 + 1) ∧ (∀ p : Addr, p.block ≠ O → wr.cell? p = W5.cell? p) ∧ Below O W5 wr ∧ wr.heap.size = W5.heap.size ∧ wr.heap[r]? = W5.heap[r]? ∧ val (os.take k) + W64 ^ k * c = val (xs.take k) + val (ys.take k)) (fun _ t23 _ => m1 - (intOf t23).toNat)
    case atStart =>
      exact ⟨0, 0, List.replicate (m1 + 1) 0, by omega, by omega, by simp, rfl, rfl, hrow0, hfr0, fun _ _ => rfl, Below.refl _ _, rfl, rfl, by simp⟩
    case round =>
      clear a0 a1 b0 b1
      obtain ⟨k, c, os, hk, hc, ho, rfl, rfl, hrow, hfr, hkeep, hbel, hszw, hrr, hval⟩ := hrel
      have HV := Lib.hid hval
      have HO := Lib.hid ho
      have HK := Lib.hid hkeep
      have HRR := Lib.hid hrr
      have a0 := (hkeep ⟨g, 0, none⟩ (by show ¬ g = O; omega)).trans HBX.out.cell0
      have a1 := (hkeep ⟨g, 1, none⟩ (by show ¬ g = O; omega)).trans HBX.out.cell1
      have b0 := (hkeep ⟨h, 0, none⟩ (by show ¬ h = O; omega)).trans HBY.out.cell0
      have b1 := (hkeep ⟨h, 1, none⟩ (by show ¬ h = O; omega)).trans HBY.out.cell1
      have hcC' := (hkeep ⟨C, 0, none⟩ (by have := HCO.out; show ¬ C = O; omega)).trans hcC
      have hbelg : Below g W5 wr := hbel.mono (by omega)
      have HFR := Lib.hid hfr
      clear hval ho hkeep hrr hfr
      by_cases hlt : k < m1
      · obtain ⟨ad, hB1, hb, hcell⟩ := (k1.below hbelg).at_ (k := k) (by rw [← HM1.out]; exact hlt)
        subst hB1
        obtain ⟨x0, hx⟩ : ∃ x0, xs.getD k 0 = x0 := ⟨_, rfl⟩
        obtain ⟨y0, hy⟩ : ∃ y0, ys.getD k 0 = y0 := ⟨_, rfl⟩
        have hxs : x0 < W64 := hx ▸ hXs.getD k
        have hys : y0 < W64 := hy ▸ hYs.getD k
        rw [hx] at hcell
        have hcg := hrow.cell (k := k) (by rw [HO.out]; omega)
        have hfg := hrow.free k
        have HS := Lib.hid (show val ((os.set k (addLo x0 y0 c)).take (k + 1)) + W64 ^ (k + 1) * (addHi x0 y0 c) = val (xs.take (k + 1)) + val (ys.take (k + 1)) by
          have hV := HV.out
          have hs := add_split x0 y0 c
          rw [val_take_set os k _ (by rw [HO.out]; omega), val_take_step xs, val_take_step ys, hx, hy, Nat.pow_succ]
          generalize val (os.take k) = a1 at *
          generalize val (xs.take k) = a2 at *
          generalize val (ys.take k) = a3 at *
          generalize W64 ^ k = P at *
          have : P * (addLo x0 y0 c + W64 * addHi x0 y0 c) = P * (x0 + y0 + c) := by rw [hs]
          grind)
        have HXX := Lib.hid hx
        have HYY := Lib.hid hy
        have hset := hrow.set (k := k) (x := addLo x0 y0 c) (by rw [HO.out]; omega) (addLo_lt _ _ _)
        have hc' := addHi_le hxs hys hc
        have hbel' := hbel.setCell (p := ⟨O, k, none⟩) (Nat.le_refl _) (.int .u64 (addLo x0 y0 c : Int))
        have HL := Lib.hid (show (os.set k (addLo x0 y0 c)).length = m1 + 1 by rw [List.length_set, HO.out])
        have hrun := add64_run x0 y0 c hc
        have hlI : (k : Int) < (m1 : Int) := by omega
        have hklc : k < m1 + 1 := by omega
        have HKK := Lib.hid (fun (p : Addr) (hp : p.block ≠ O) => show (wr.setCell ⟨O, k, none⟩ (.int .u64 (addLo x0 y0 c : Int))).cell? p = W5.cell? p from (cell_of_block (Below.heap_setCell _ _ _ p.block (by simpa using hp))).trans (HK.out p hp))
        have HR2 := Lib.hid (show (wr.setCell ⟨O, k, none⟩ (.int .u64 (addLo x0 y0 c : Int))).heap[r]? = W5.heap[r]? from (Below.heap_setCell _ _ _ r (by show ¬ r = O; omega)).trans HRR.out)
        clear hx hy
        go_wp2_with fail
        refine (limb_behind1 k C m2 d2 B2 ys wr hcC' (k2.below hbelg) HM2.out (by have := HML.out; omega)).mono ?_
        rintro e w6 ⟨rfl, rfl⟩
        rw [HYY.out]
        go_wp2_with fail
        exact ⟨⟨k + 1, _, _, by omega, hc', HL.out, rfl, by go_num, hset, HFR.out.set _ _ _, HKK.out, hbel', by simpa using hszw, HR2.out, HS.out⟩, by simp [intOf]; omega⟩
      · obtain rfl : k = m1 := by omega
        have hcg := hrow.cell (k := k) (by rw [HO.out]; omega)
        have hfg := hrow.free k
        have hcW : c < W64 := by rw [W64_eq]; omega
        have hset := hrow.set (k := k) (x := c) (by rw [HO.out]; omega) hcW
        have hbel' := hbel.setCell (p := ⟨O, k, none⟩) (Nat.le_refl _) (.int .u64 (c : Int))
        have HL := Lib.hid (show (os.set k c).length = k + 1 by rw [List.length_set, HO.out])
        have HF := Lib.hid (show val (os.set k c) = X + Y by
          have hV := HV.out
          have e1 := val_take_set os k c (by rw [HO.out]; omega)
          rw [List.take_of_length_le (by rw [List.length_set, HO.out]; omega)] at e1
          rw [List.take_of_length_le (l := xs) (by rw [← HM1.out]; omega), List.take_of_length_le (l := ys) (by rw [← HM2.out]; exact HML.out), HXV.out, HYV.out] at hV
          omega)
        have hRR : Box2 (wr.setCell ⟨O, k, none⟩ (.int .u64 (c : Int))) r (.bool false) (.slice none 0 0) := by
          unfold Box2
          rw [Below.heap_setCell _ _ _ r (by show ¬ r = O; omega), HRR.out]
          exact HBR.out
        have HRW := Lib.hid hRR
        have hszc : (wr.setCell ⟨O, k, none⟩ (.int .u64 (c : Int))).heap.size = O + 2 := by simpa [hsz5] using hszw
        have hfresh : Fresh (wr.setCell ⟨O, k, none⟩ (.int .u64 (c : Int))) O (some ⟨O, 0, none⟩) (k + 1) := HFR.out.set _ _ _
        clear hRR
        go_wp2_with fail
        refine (limb_told' t1 (some ⟨O, 0, none⟩) (k + 1) (k + 1) O (os.set k c) (wr.setCell ⟨O, k, none⟩ (.int .u64 (c : Int))) (hset.lim (by omega)) hfresh HL.out.symm (Nat.le_refl _) (by omega)).mono ?_
        rintro e w7 ⟨v7, rfl, hv7, hb7⟩
        rw [HF.out, toldF_signed HSG.out] at hv7 ⊢
        obtain ⟨E, hE⟩ : ∃ E : Int, longE (x + y) = E := ⟨_, rfl⟩
        have HE := Lib.hid hE
        simp only [hE]
        clear hE
        obtain ⟨bv, Av, lv, cv, rfl, HV7⟩ := hv7.open
        clear hv7
        have br7 : Box2 w7 r (.bool false) (.slice none 0 0) := HRW.out.below hb7 HRW.out.lt
        have HBF := Lib.hid (show Below g w w7 from (HBW.out.trans (hbel'.mono (by omega))).trans (hb7.mono (by omega)))
        have HRL := Lib.hid (show r < O by omega)
        have d0 := br7.cell0
        have d1 := br7.cell1
        have fr := br7.free
        have HE7 := Lib.hid (HV7.out.ext (ext_store2 (a := .bool bv) (b := .slice Av lv cv) br7.nums) (fun i hi => by subst hi; exact HRL.out))
        clear hb7
        go_wp2_with fail
        refine bodyPost_ret (v := .tuple #[.agg #[.bool bv, (.slice Av lv cv)], (.int .i64 E)]) (by
          rw [results_cell_tmp rfl]
          have hld := run_loadVar_row (P := Tryz.prog) _ r 24 24 #[.bool bv, (.slice Av lv cv)] (0, 0) _ br7.store Tryz.underlying24 rfl (by kernel_rfl)
          simp [asAddr, Result.andThen, hld]) rfl ?_
        rw [HE.out]
        exact ⟨_, rfl, HE7.out.since (base' := w.heap.size) (by rw [HW.out]; omega), by rw [HW.out]; exact store2_below HBF.out (by omega)⟩
  · have tt : (t1 == t2) = false := by simpa using hs
    have HNE := Lib.hid hs
    clear hs
    by_cases hz : m2 = 0
    · have tz : ((m2 : Int) == 0) = true := by simp [hz]
      have hz := Lib.hid hz
      have HSG := Lib.hid (show signed t1 (X + Y) = x + y by
        have h1 : ys = [] := List.eq_nil_of_length_eq_zero (HM2.out.symm.trans hz.out)
        have h2 := HYV.out
        rw [h1] at h2
        have h3 : Y = 0 := h2.symm
        rw [← HS.out, h3]
        cases t2 <;> simp [signed])
      go_wp2_with fail
      go_loopw [8, 39] (fun t6 t23 wr => ∃ (k c : Nat) (os : List Nat), k ≤ m1 ∧ c ≤ 1 ∧ os.length = m1 + 1 ∧ t6 = .int .u64 (c : Int) ∧ t23 = .int .i64 (k : Int) ∧ Row wr O os ∧ Fresh wr O (some ⟨O, 0, none⟩) (m1 + 1) ∧ (∀ p : Addr, p.block ≠ O → wr.cell? p = W5.cell? p) ∧ Below O W5 wr ∧ wr.heap.size = W5.heap.size ∧ wr.heap[r]? = W5.heap[r]? ∧ val (os.take k) + W64 ^ k * c = val (xs.take k) + val (ys.take k)) (fun _ t23 _ => m1 - (intOf t23).toNat)
      case atStart =>
        exact ⟨0, 0, List.replicate (m1 + 1) 0, by omega, by omega, by simp, rfl, rfl, hrow0, hfr0, fun _ _ => rfl, Below.refl _ _, rfl, rfl, by simp⟩
      case round =>
        clear a0 a1 b0 b1
        obtain ⟨k, c, os, hk, hc, ho, rfl, rfl, hrow, hfr, hkeep, hbel, hszw, hrr, hval⟩ := hrel
        have HV := Lib.hid hval
        have HO := Lib.hid ho
        have HK := Lib.hid hkeep
        have HRR := Lib.hid hrr
        have a0 := (hkeep ⟨g, 0, none⟩ (by show ¬ g = O; omega)).trans HBX.out.cell0
        have a1 := (hkeep ⟨g, 1, none⟩ (by show ¬ g = O; omega)).trans HBX.out.cell1
        have b0 := (hkeep ⟨h, 0, none⟩ (by show ¬ h = O; omega)).trans HBY.out.cell0
        have b1 := (hkeep ⟨h, 1, none⟩ (by show ¬ h = O; omega)).trans HBY.out.cell1
        have hcC' := (hkeep ⟨C, 0, none⟩ (by have := HCO.out; show ¬ C = O; omega)).trans hcC
        have hbelg : Below g W5 wr := hbel.mono (by omega)
        have HFR := Lib.hid hfr
        clear hval ho hkeep hrr hfr
        by_cases hlt : k < m1
        · obtain ⟨ad, hB1, hb, hcell⟩ := (k1.below hbelg).at_ (k := k) (by rw [← HM1.out]; exact hlt)
          subst hB1
          obtain ⟨x0, hx⟩ : ∃ x0, xs.getD k 0 = x0 := ⟨_, rfl⟩
          obtain ⟨y0, hy⟩ : ∃ y0, ys.getD k 0 = y0 := ⟨_, rfl⟩
          have hxs : x0 < W64 := hx ▸ hXs.getD k
          have hys : y0 < W64 := hy ▸ hYs.getD k
          rw [hx] at hcell
          have hcg := hrow.cell (k := k) (by rw [HO.out]; omega)
          have hfg := hrow.free k
          have HS := Lib.hid (show val ((os.set k (addLo x0 y0 c)).take (k + 1)) + W64 ^ (k + 1) * (addHi x0 y0 c) = val (xs.take (k + 1)) + val (ys.take (k + 1)) by
            have hV := HV.out
            have hs := add_split x0 y0 c
            rw [val_take_set os k _ (by rw [HO.out]; omega), val_take_step xs, val_take_step ys, hx, hy, Nat.pow_succ]
            generalize val (os.take k) = a1 at *
            generalize val (xs.take k) = a2 at *
            generalize val (ys.take k) = a3 at *
            generalize W64 ^ k = P at *
            have : P * (addLo x0 y0 c + W64 * addHi x0 y0 c) = P * (x0 + y0 + c) := by rw [hs]
            grind)
          have HXX := Lib.hid hx
          have HYY := Lib.hid hy
          have hset := hrow.set (k := k) (x := addLo x0 y0 c) (by rw [HO.out]; omega) (addLo_lt _ _ _)
          have hc' := addHi_le hxs hys hc
          have hbel' := hbel.setCell (p := ⟨O, k, none⟩) (Nat.le_refl _) (.int .u64 (addLo x0 y0 c : Int))
          have HL := Lib.hid (show (os.set k (addLo x0 y0 c)).length = m1 + 1 by rw [List.length_set, HO.out])
          have hrun := add64_run x0 y0 c hc
          have hlI : (k : Int) < (m1 : Int) := by omega
          have hklc : k < m1 + 1 := by omega
          have HKK := Lib.hid (fun (p : Addr) (hp : p.block ≠ O) => show (wr.setCell ⟨O, k, none⟩ (.int .u64 (addLo x0 y0 c : Int))).cell? p = W5.cell? p from (cell_of_block (Below.heap_setCell _ _ _ p.block (by simpa using hp))).trans (HK.out p hp))
          have HR2 := Lib.hid (show (wr.setCell ⟨O, k, none⟩ (.int .u64 (addLo x0 y0 c : Int))).heap[r]? = W5.heap[r]? from (Below.heap_setCell _ _ _ r (by show ¬ r = O; omega)).trans HRR.out)
          clear hx hy
          go_wp2_with fail
          refine (limb_behind1 k C m2 d2 B2 ys wr hcC' (k2.below hbelg) HM2.out (by have := HML.out; omega)).mono ?_
          rintro e w6 ⟨rfl, rfl⟩
          rw [HYY.out]
          go_wp2_with fail
          exact ⟨⟨k + 1, _, _, by omega, hc', HL.out, rfl, by go_num, hset, HFR.out.set _ _ _, HKK.out, hbel', by simpa using hszw, HR2.out, HS.out⟩, by simp [intOf]; omega⟩
        · obtain rfl : k = m1 := by omega
          have hcg := hrow.cell (k := k) (by rw [HO.out]; omega)
          have hfg := hrow.free k
          have hcW : c < W64 := by rw [W64_eq]; omega
          have hset := hrow.set (k := k) (x := c) (by rw [HO.out]; omega) hcW
          have hbel' := hbel.setCell (p := ⟨O, k, none⟩) (Nat.le_refl _) (.int .u64 (c : Int))
          have HL := Lib.hid (show (os.set k c).length = k + 1 by rw [List.length_set, HO.out])
          have HF := Lib.hid (show val (os.set k c) = X + Y by
            have hV := HV.out
            have e1 := val_take_set os k c (by rw [HO.out]; omega)
            rw [List.take_of_length_le (by rw [List.length_set, HO.out]; omega)] at e1
            rw [List.take_of_length_le (l := xs) (by rw [← HM1.out]; omega), List.take_of_length_le (l := ys) (by rw [← HM2.out]; exact HML.out), HXV.out, HYV.out] at hV
            omega)
          have hRR : Box2 (wr.setCell ⟨O, k, none⟩ (.int .u64 (c : Int))) r (.bool false) (.slice none 0 0) := by
            unfold Box2
            rw [Below.heap_setCell _ _ _ r (by show ¬ r = O; omega), HRR.out]
            exact HBR.out
          have HRW := Lib.hid hRR
          have hszc : (wr.setCell ⟨O, k, none⟩ (.int .u64 (c : Int))).heap.size = O + 2 := by simpa [hsz5] using hszw
          have hfresh : Fresh (wr.setCell ⟨O, k, none⟩ (.int .u64 (c : Int))) O (some ⟨O, 0, none⟩) (k + 1) := HFR.out.set _ _ _
          clear hRR
          go_wp2_with fail
          refine (limb_told' t1 (some ⟨O, 0, none⟩) (k + 1) (k + 1) O (os.set k c) (wr.setCell ⟨O, k, none⟩ (.int .u64 (c : Int))) (hset.lim (by omega)) hfresh HL.out.symm (Nat.le_refl _) (by omega)).mono ?_
          rintro e w7 ⟨v7, rfl, hv7, hb7⟩
          rw [HF.out, toldF_signed HSG.out] at hv7 ⊢
          obtain ⟨E, hE⟩ : ∃ E : Int, longE (x + y) = E := ⟨_, rfl⟩
          have HE := Lib.hid hE
          simp only [hE]
          clear hE
          obtain ⟨bv, Av, lv, cv, rfl, HV7⟩ := hv7.open
          clear hv7
          have br7 : Box2 w7 r (.bool false) (.slice none 0 0) := HRW.out.below hb7 HRW.out.lt
          have HBF := Lib.hid (show Below g w w7 from (HBW.out.trans (hbel'.mono (by omega))).trans (hb7.mono (by omega)))
          have HRL := Lib.hid (show r < O by omega)
          have d0 := br7.cell0
          have d1 := br7.cell1
          have fr := br7.free
          have HE7 := Lib.hid (HV7.out.ext (ext_store2 (a := .bool bv) (b := .slice Av lv cv) br7.nums) (fun i hi => by subst hi; exact HRL.out))
          clear hb7
          go_wp2_with fail
          refine bodyPost_ret (v := .tuple #[.agg #[.bool bv, (.slice Av lv cv)], (.int .i64 E)]) (by
            rw [results_cell_tmp rfl]
            have hld := run_loadVar_row (P := Tryz.prog) _ r 24 24 #[.bool bv, (.slice Av lv cv)] (0, 0) _ br7.store Tryz.underlying24 rfl (by kernel_rfl)
            simp [asAddr, Result.andThen, hld]) rfl ?_
          rw [HE.out]
          exact ⟨_, rfl, HE7.out.since (base' := w.heap.size) (by rw [HW.out]; omega), by rw [HW.out]; exact store2_below HBF.out (by omega)⟩
    · have tz : ((m2 : Int) == 0) = false := beq_eq_false_iff_ne.2 (by omega)
      have HSG := Lib.hid (show signed t1 (X - Y) = x + y by rw [← HS.out, signed_add_ge tt HYX.out])
      clear hz
      go_wp2_with fail
      go_loopw [8, 39] (fun t6 t23 wr => ∃ (k c : Nat) (os : List Nat), k ≤ m1 ∧ c ≤ 1 ∧ os.length = m1 + 1 ∧ t6 = .int .u64 (c : Int) ∧ t23 = .int .i64 (k : Int) ∧ Row wr O os ∧ Fresh wr O (some ⟨O, 0, none⟩) (m1 + 1) ∧ (∀ p : Addr, p.block ≠ O → wr.cell? p = W5.cell? p) ∧ Below O W5 wr ∧ wr.heap.size = W5.heap.size ∧ wr.heap[r]? = W5.heap[r]? ∧ val (os.take k) + val (ys.take k) = val (xs.take k) + W64 ^ k * c) (fun _ t23 _ => m1 - (intOf t23).toNat)
      case atStart =>
        exact ⟨0, 0, List.replicate (m1 + 1) 0, by omega, by omega, by simp, rfl, rfl, hrow0, hfr0, fun _ _ => rfl, Below.refl _ _, rfl, rfl, by simp⟩
      case round =>
        clear a0 a1 b0 b1
        obtain ⟨k, c, os, hk, hc, ho, rfl, rfl, hrow, hfr, hkeep, hbel, hszw, hrr, hval⟩ := hrel
        have HV := Lib.hid hval
        have HO := Lib.hid ho
        have HK := Lib.hid hkeep
        have HRR := Lib.hid hrr
        have a0 := (hkeep ⟨g, 0, none⟩ (by show ¬ g = O; omega)).trans HBX.out.cell0
        have a1 := (hkeep ⟨g, 1, none⟩ (by show ¬ g = O; omega)).trans HBX.out.cell1
        have b0 := (hkeep ⟨h, 0, none⟩ (by show ¬ h = O; omega)).trans HBY.out.cell0
        have b1 := (hkeep ⟨h, 1, none⟩ (by show ¬ h = O; omega)).trans HBY.out.cell1
        have hcC' := (hkeep ⟨C, 0, none⟩ (by have := HCO.out; show ¬ C = O; omega)).trans hcC
        have hbelg : Below g W5 wr := hbel.mono (by omega)
        have HFR := Lib.hid hfr
        clear hval ho hkeep hrr hfr
        by_cases hlt : k < m1
        · obtain ⟨ad, hB1, hb, hcell⟩ := (k1.below hbelg).at_ (k := k) (by rw [← HM1.out]; exact hlt)
          subst hB1
          obtain ⟨x0, hx⟩ : ∃ x0, xs.getD k 0 = x0 := ⟨_, rfl⟩
          obtain ⟨y0, hy⟩ : ∃ y0, ys.getD k 0 = y0 := ⟨_, rfl⟩
          have hxs : x0 < W64 := hx ▸ hXs.getD k
          have hys : y0 < W64 := hy ▸ hYs.getD k
          rw [hx] at hcell
          have hcg := hrow.cell (k := k) (by rw [HO.out]; omega)
          have hfg := hrow.free k
          have HS := Lib.hid (show val ((os.set k (subLo x0 y0 c)).take (k + 1)) + val (ys.take (k + 1)) = val (xs.take (k + 1)) + W64 ^ (k + 1) * (subHi x0 y0 c) by
            have hV := HV.out
            have hs := sub_split hxs hys hc
            rw [val_take_set os k _ (by rw [HO.out]; omega), val_take_step xs, val_take_step ys, hx, hy, Nat.pow_succ]
            generalize val (os.take k) = a1 at *
            generalize val (xs.take k) = a2 at *
            generalize val (ys.take k) = a3 at *
            generalize W64 ^ k = P at *
            have : P * (subLo x0 y0 c + y0 + c) = P * (x0 + W64 * subHi x0 y0 c) := by rw [hs]
            grind)
          have HXX := Lib.hid hx
          have HYY := Lib.hid hy
          have hset := hrow.set (k := k) (x := subLo x0 y0 c) (by rw [HO.out]; omega) (subLo_lt _ _ _)
          have hc' := subHi_le x0 y0 c
          have hbel' := hbel.setCell (p := ⟨O, k, none⟩) (Nat.le_refl _) (.int .u64 (subLo x0 y0 c : Int))
          have HL := Lib.hid (show (os.set k (subLo x0 y0 c)).length = m1 + 1 by rw [List.length_set, HO.out])
          have hrun := sub64_run x0 y0 c hc
          have hlI : (k : Int) < (m1 : Int) := by omega
          have hklc : k < m1 + 1 := by omega
          have HKK := Lib.hid (fun (p : Addr) (hp : p.block ≠ O) => show (wr.setCell ⟨O, k, none⟩ (.int .u64 (subLo x0 y0 c : Int))).cell? p = W5.cell? p from (cell_of_block (Below.heap_setCell _ _ _ p.block (by simpa using hp))).trans (HK.out p hp))
          have HR2 := Lib.hid (show (wr.setCell ⟨O, k, none⟩ (.int .u64 (subLo x0 y0 c : Int))).heap[r]? = W5.heap[r]? from (Below.heap_setCell _ _ _ r (by show ¬ r = O; omega)).trans HRR.out)
          clear hx hy
          go_wp2_with fail
          refine (limb_behind1 k C m2 d2 B2 ys wr hcC' (k2.below hbelg) HM2.out (by have := HML.out; omega)).mono ?_
          rintro e w6 ⟨rfl, rfl⟩
          rw [HYY.out]
          go_wp2_with fail
          exact ⟨⟨k + 1, _, _, by omega, hc', HL.out, rfl, by go_num, hset, HFR.out.set _ _ _, HKK.out, hbel', by simpa using hszw, HR2.out, HS.out⟩, by simp [intOf]; omega⟩
        · obtain rfl : k = m1 := by omega
          have hcg := hrow.cell (k := k) (by rw [HO.out]; omega)
          have hfg := hrow.free k
          have hcW : c < W64 := by rw [W64_eq]; omega
          have hset := hrow.set (k := k) (x := c) (by rw [HO.out]; omega) hcW
          have hbel' := hbel.setCell (p := ⟨O, k, none⟩) (Nat.le_refl _) (.int .u64 (c : Int))
          have HL := Lib.hid (show (os.set k c).length = k + 1 by rw [List.length_set, HO.out])
          have HF := Lib.hid (show val (os.set k c) = X - Y by
            have hV := HV.out
            have e1 := val_take_set os k c (by rw [HO.out]; omega)
            rw [List.take_of_length_le (by rw [List.length_set, HO.out]; omega)] at e1
            rw [List.take_of_length_le (l := xs) (by rw [← HM1.out]; omega), List.take_of_length_le (l := ys) (by rw [← HM2.out]; exact HML.out), HXV.out, HYV.out] at hV
            have hlt := val_lt (hrow.small.take k)
            rw [List.length_take, Nat.min_eq_left (by rw [HO.out]; omega)] at hlt
            have hyx := HYX.out
            have hc0 : c = 0 := by
              rcases Nat.eq_zero_or_pos c with h0 | h0
              · exact h0
              · have := Nat.le_mul_of_pos_right (W64 ^ k) h0
                omega
            subst hc0
            omega)
          have hRR : Box2 (wr.setCell ⟨O, k, none⟩ (.int .u64 (c : Int))) r (.bool false) (.slice none 0 0) := by
            unfold Box2
            rw [Below.heap_setCell _ _ _ r (by show ¬ r = O; omega), HRR.out]
            exact HBR.out
          have HRW := Lib.hid hRR
          have hszc : (wr.setCell ⟨O, k, none⟩ (.int .u64 (c : Int))).heap.size = O + 2 := by simpa [hsz5] using hszw
          have hfresh : Fresh (wr.setCell ⟨O, k, none⟩ (.int .u64 (c : Int))) O (some ⟨O, 0, none⟩) (k + 1) := HFR.out.set _ _ _
          clear hRR
          go_wp2_with fail
          refine (limb_told' t1 (some ⟨O, 0, none⟩) (k + 1) (k + 1) O (os.set k c) (wr.setCell ⟨O, k, none⟩ (.int .u64 (c : Int))) (hset.lim (by omega)) hfresh HL.out.symm (Nat.le_refl _) (by omega)).mono ?_
          rintro e w7 ⟨v7, rfl, hv7, hb7⟩
          rw [HF.out, toldF_signed HSG.out] at hv7 ⊢
          obtain ⟨E, hE⟩ : ∃ E : Int, longE (x + y) = E := ⟨_, rfl⟩
          have HE := Lib.hid hE
          simp only [hE]
          clear hE
          obtain ⟨bv, Av, lv, cv, rfl, HV7⟩ := hv7.open
          clear hv7
          have br7 : Box2 w7 r (.bool false) (.slice none 0 0) := HRW.out.below hb7 HRW.out.lt
          have HBF := Lib.hid (show Below g w w7 from (HBW.out.trans (hbel'.mono (by omega))).trans (hb7.mono (by omega)))
          have HRL := Lib.hid (show r < O by omega)
          have d0 := br7.cell0
          have d1 := br7.cell1
          have fr := br7.free
          have HE7 := Lib.hid (HV7.out.ext (ext_store2 (a := .bool bv) (b := .slice Av lv cv) br7.nums) (fun i hi => by subst hi; exact HRL.out))
          clear hb7
          go_wp2_with fail
          refine bodyPost_ret (v := .tuple #[.agg #[.bool bv, (.slice Av lv cv)], (.int .i64 E)]) (by
            rw [results_cell_tmp rfl]
            have hld := run_loadVar_row (P := Tryz.prog) _ r 24 24 #[.bool bv, (.slice Av lv cv)] (0, 0) _ br7.store Tryz.underlying24 rfl (by kernel_rfl)
            simp [asAddr, Result.andThen, hld]) rfl ?_
          rw [HE.out]
          exact ⟨_, rfl, HE7.out.since (base' := w.heap.size) (by rw [HW.out]; omega), by rw [HW.out]; exact store2_below HBF.out (by omega)⟩
end Go.Proofs.YtonbhpadoplpkaaGreat
/- The package limb, on: Sub, Of. -/
namespace Go.Proofs.YtonbhpadoplpkaaGreat
open Go.RowKit Go.Deep
theorem lc_neg {z : Int} (h : lc z.natAbs ≤ 4096) : lc (-z).natAbs ≤ 4096 := by rwa [Int.natAbs_neg]
set_option maxRecDepth 100000 in
theorem limb_Sub (u v : Value) (x y : Int) (w : World) (hx : IntV w u x) (hy : IntV w v y) (lx : lc x.natAbs ≤ 4096) (ly : lc y.natAbs ≤ 4096) :
    Calls Tryz.prog 47 #[u, v] w fun e w' => ∃ v', e = .returned (.tuple #[v', .int .i64 (longE (x - y))]) ∧ RawAt w' w.heap.size v' (longR (x - y)) ∧ Below w.heap.size w w' := by
  obtain ⟨s1, A1, l1, c1, rfl, HU⟩ := hx.open
  obtain ⟨s2, A2, l2, c2, rfl, HV⟩ := hy.open
  have LX := Lib.hid lx
  have LY := Lib.hid ly
  clear hx hy lx ly
  go_enter Tryz.func47, Tryz.ntmps47
  go_wp2_with fail
  obtain ⟨W0, g, h, r, hW, hg, hh, hr, hgr, bx, by_, br, hbw, hsz⟩ := box_three w (.bool s1) (.slice A1 l1 c1) (.bool s2) (.slice A2 l2 c2) (.bool false) (.slice none 0 0)
  have HW := Lib.hid (show w.heap.size = g from hg)
  rw [hW, hr, hh, hg]
  have HBW := Lib.hid hbw
  have HBWS := Lib.hid (show Below w.heap.size w W0 from by rw [hg]; exact hbw)
  clear hW hr hg hh hbw
  refine (limb_Neg _ y W0 (HV.out.below HBWS.out) LY.out).mono ?_
  rintro e w1 ⟨v1, rfl, hv1, hb1⟩
  obtain ⟨b1, B1, m1, d1, rfl, HV1⟩ := hv1.open
  have hbA : Below w1.heap.size w1 (w1.alloc (.cells #[.bool b1, .slice B1 m1 d1] 24)) := (Below.refl _ _).alloc (Nat.le_refl _) _
  have hb1A : Below W0.heap.size W0 (w1.alloc (.cells #[.bool b1, .slice B1 m1 d1] 24)) := hb1.trans (hbA.mono hb1.size)
  have bc : Box2 (w1.alloc (.cells #[.bool b1, .slice B1 m1 d1] 24)) w1.heap.size (.bool b1) (.slice B1 m1 d1) := heap_alloc_new w1 _
  have bx := bx.below hb1A bx.lt
  have br := br.below hb1A br.lt
  have HU2 := Lib.hid (((HU.out.below HBWS.out).below hb1A))
  have HV2 := Lib.hid (HV1.out.int.below hbA)
  have hszr := br.lt
  have HBW2 := Lib.hid (HBW.out.trans (hb1A.mono (by omega)))
  have a0 := bx.cell0
  have a1 := bx.cell1
  have e0 := bc.cell0
  have e1 := bc.cell1
  clear hv1
  go_wp2_with fail
  refine (limb_Add _ _ x (-y) _ HU2.out HV2.out LX.out (lc_neg LY.out)).mono ?_
  rintro e w3 ⟨v3, rfl, hv3, hb3⟩
  rw [← Int.sub_eq_add_neg] at hv3 ⊢
  obtain ⟨E, hE⟩ : ∃ E : Int, longE (x - y) = E := ⟨_, rfl⟩
  have HE := Lib.hid hE
  rw [hE]
  clear hE
  obtain ⟨b3, B3, m3, d3, rfl, HV3⟩ := hv3.open
  have br3 := br.below hb3 br.lt
  have HB3 := Lib.hid (HBW2.out.trans (hb3.mono (by omega)))
  have HR := Lib.hid (HV3.out.ext (ext_store2 (a := .bool b3) (b := .slice B3 m3 d3) br3.nums) (fun i hi => by subst hi; exact hszr))
  have d0 := br3.cell0
  have d1' := br3.cell1
  have fr := br3.free
  have HSZ := Lib.hid (show g ≤ (w1.alloc (.cells #[.bool b1, .slice B1 m1 d1] 24)).heap.size by omega)
  clear hv3 hb3 hb1 hbA hb1A a0 a1 e0 e1 hszr
  go_wp2_with fail
  refine bodyPost_ret (v := .tuple #[.agg #[.bool b3, (.slice B3 m3 d3)], (.int .i64 E)]) (by
    rw [results_cell_tmp rfl]
    have hld := run_loadVar_row (P := Tryz.prog) _ r 24 24 #[.bool b3, (.slice B3 m3 d3)] (0, 0) _ br3.store Tryz.underlying24 rfl (by kernel_rfl)
    simp [asAddr, Result.andThen, hld]) rfl ?_
  rw [HE.out]
  exact ⟨_, rfl, HR.out.since (base' := w.heap.size) (by rw [HW.out]; exact HSZ.out), by rw [HW.out]; exact store2_below HB3.out (by omega)⟩
set_option maxRecDepth 100000 in
theorem limb_Of (n : Int) (w : World) (h1 : -9223372036854775808 ≤ n) (h2 : n < 9223372036854775808) :
    Calls Tryz.prog 48 #[.int .i64 n] w fun e w' => ∃ v', e = .returned v' ∧ RawAt w' w.heap.size v' (rawOf n) ∧ Below w.heap.size w w' := by
  by_cases hn : n < 0
  · obtain ⟨k, hk⟩ : ∃ k : Nat, n = -(k : Int) := ⟨n.natAbs, by omega⟩
    have HK := Lib.hid hk
    obtain ⟨r, e1, e2⟩ := wrap_minus (k := k) (by omega) (by omega)
    rw [← hk] at e1
    have HW := Lib.hid (show k < W64 by rw [W64_eq]; omega)
    have HN := Lib.hid hn
    clear hk h1 h2
    go_enter Tryz.func48, Tryz.ntmps48
    go_wp2_with fail
    have HSG := Lib.hid (show signed true k = n by rw [HK.out]; rfl)
    have hex : ∃ (W : World) (g h : Nat), (w.alloc (.cells #[.bool false, .slice none 0 0] 24)).alloc (.cells #[.int .u64 (k : Int)] 85) = W ∧ w.heap.size = g ∧ w.heap.size + 1 = h ∧ W.heap.size = g + 2 ∧ h = g + 1 ∧ Box2 W g (.bool false) (.slice none 0 0) ∧ Lim W (g + 2) (some ⟨h, 0, none⟩) [k] ∧ Fresh W (g + 1) (some ⟨h, 0, none⟩) 1 ∧ Below g w W := by
      refine ⟨_, _, _, rfl, rfl, rfl, by simp, rfl, ?_, ?_, ?_, ((Below.refl _ _).alloc (Nat.le_refl _) _).alloc (by simp) _⟩
      · unfold Box2
        rw [Below.heap_alloc _ _ _ (by simp)]; exact heap_alloc_new w _
      · have h1 := Lim.one (w := w.alloc (.cells #[.bool false, .slice none 0 0] 24)) HW.out
        simpa using h1
      · have h1 := heap_alloc_new (w.alloc (.cells #[.bool false, .slice none 0 0] 24)) (.cells #[.int .u64 (k : Int)] 85)
        exact .inr ⟨_, _, rfl, Nat.le_refl _, by simpa using h1, by simp⟩
    obtain ⟨W1, g, h, hW1, hg, hh, hsz, hhg, bx, hlim, hfr, hbw⟩ := hex
    rw [hW1, hh]
    have HG := Lib.hid hg
    have HHG := Lib.hid hhg
    rw [hg]
    clear hW1 hh hg hhg
    refine (limb_told' true (some ⟨h, 0, none⟩) 1 1 (g + 1) [k] W1 (by rw [hsz]; exact hlim) hfr rfl (Nat.le_refl _) (by omega)).mono ?_
    rintro e w2 ⟨v2, rfl, hv, hb2⟩
    have e3 : val [k] = k := by simp
    rw [e3, toldF_signed HSG.out] at hv ⊢
    have HLN := Lib.hid (show lc (n).natAbs ≤ 4096 by
      have h1 : (n).natAbs = k := by rw [← HSG.out, signed_natAbs]
      rw [h1]
      exact Nat.le_trans (lc_limb HW.out) (by omega))
    rw [longR_ok HLN.out, longE_ok HLN.out] at hv
    rw [longE_ok HLN.out, longR_ok HLN.out]
    obtain ⟨bv, Av, lv, cv, rfl, HV⟩ := hv.open
    have bx2 := bx.below hb2 bx.lt
    have HB := Lib.hid (show Below g w w2 from hbw.trans (hb2.mono (by omega)))
    have hbA : Below w2.heap.size w2 (w2.alloc (.cells #[.bool bv, .slice Av lv cv] 24)) := (Below.refl _ _).alloc (Nat.le_refl _) _
    have bxA := bx2.below hbA bx2.lt
    have HE := Lib.hid ((HV.out.below hbA).ext (ext_store2 (a := .bool bv) (b := .slice Av lv cv) bxA.nums) (fun i hi => by subst hi; omega))
    have HBA := Lib.hid (HB.out.trans (hbA.mono (by have := hb2.size; omega)))
    have d0 := bxA.cell0
    have d1 := bxA.cell1
    have fr := bxA.free
    clear hv hb2 hbw hlim hfr hbA
    go_wp2_with fail
    refine bodyPost_ret (results_cell_row rfl _ _ g 24 #[.bool bv, (.slice Av lv cv)] (0, 0) _ (by rfl) bxA.store Tryz.underlying24 rfl (by kernel_rfl)) rfl ?_
    exact ⟨_, rfl, HE.out.since (base' := w.heap.size) (by rw [HG.out]; omega), by rw [HG.out]; exact store2_below HBA.out (Nat.le_refl _)⟩
  · obtain ⟨k, hk⟩ : ∃ k : Nat, n = (k : Int) := ⟨n.natAbs, by omega⟩
    have e1 := wrap_plus (k := k) (by omega)
    subst hk
    have HW := Lib.hid (show k < W64 by rw [W64_eq]; omega)
    clear h1 h2
    go_enter Tryz.func48, Tryz.ntmps48
    go_wp2_with fail
    have HSG := Lib.hid (show signed false k = (k : Int) from rfl)
    have hex : ∃ (W : World) (g h : Nat), (w.alloc (.cells #[.bool false, .slice none 0 0] 24)).alloc (.cells #[.int .u64 (k : Int)] 85) = W ∧ w.heap.size = g ∧ w.heap.size + 1 = h ∧ W.heap.size = g + 2 ∧ h = g + 1 ∧ Box2 W g (.bool false) (.slice none 0 0) ∧ Lim W (g + 2) (some ⟨h, 0, none⟩) [k] ∧ Fresh W (g + 1) (some ⟨h, 0, none⟩) 1 ∧ Below g w W := by
      refine ⟨_, _, _, rfl, rfl, rfl, by simp, rfl, ?_, ?_, ?_, ((Below.refl _ _).alloc (Nat.le_refl _) _).alloc (by simp) _⟩
      · unfold Box2
        rw [Below.heap_alloc _ _ _ (by simp)]; exact heap_alloc_new w _
      · have h1 := Lim.one (w := w.alloc (.cells #[.bool false, .slice none 0 0] 24)) HW.out
        simpa using h1
      · have h1 := heap_alloc_new (w.alloc (.cells #[.bool false, .slice none 0 0] 24)) (.cells #[.int .u64 (k : Int)] 85)
        exact .inr ⟨_, _, rfl, Nat.le_refl _, by simpa using h1, by simp⟩
    obtain ⟨W1, g, h, hW1, hg, hh, hsz, hhg, bx, hlim, hfr, hbw⟩ := hex
    rw [hW1, hh]
    have HG := Lib.hid hg
    have HHG := Lib.hid hhg
    rw [hg]
    clear hW1 hh hg hhg
    refine (limb_told' false (some ⟨h, 0, none⟩) 1 1 (g + 1) [k] W1 (by rw [hsz]; exact hlim) hfr rfl (Nat.le_refl _) (by omega)).mono ?_
    rintro e w2 ⟨v2, rfl, hv, hb2⟩
    have e3 : val [k] = k := by simp
    rw [e3, toldF_signed HSG.out] at hv ⊢
    have HLN := Lib.hid (show lc ((k : Int)).natAbs ≤ 4096 by
      have h1 : ((k : Int)).natAbs = k := by rw [← HSG.out, signed_natAbs]
      rw [h1]
      exact Nat.le_trans (lc_limb HW.out) (by omega))
    rw [longR_ok HLN.out, longE_ok HLN.out] at hv
    rw [longE_ok HLN.out, longR_ok HLN.out]
    obtain ⟨bv, Av, lv, cv, rfl, HV⟩ := hv.open
    have bx2 := bx.below hb2 bx.lt
    have HB := Lib.hid (show Below g w w2 from hbw.trans (hb2.mono (by omega)))
    have hbA : Below w2.heap.size w2 (w2.alloc (.cells #[.bool bv, .slice Av lv cv] 24)) := (Below.refl _ _).alloc (Nat.le_refl _) _
    have bxA := bx2.below hbA bx2.lt
    have HE := Lib.hid ((HV.out.below hbA).ext (ext_store2 (a := .bool bv) (b := .slice Av lv cv) bxA.nums) (fun i hi => by subst hi; omega))
    have HBA := Lib.hid (HB.out.trans (hbA.mono (by have := hb2.size; omega)))
    have d0 := bxA.cell0
    have d1 := bxA.cell1
    have fr := bxA.free
    clear hv hb2 hbw hlim hfr hbA
    go_wp2_with fail
    refine bodyPost_ret (results_cell_row rfl _ _ g 24 #[.bool bv, (.slice Av lv cv)] (0, 0) _ (by rfl) bxA.store Tryz.underlying24 rfl (by kernel_rfl)) rfl ?_
    exact ⟨_, rfl, HE.out.since (base' := w.heap.size) (by rw [HG.out]; omega), by rw [HG.out]; exact store2_below HBA.out (Nat.le_refl _)⟩
end Go.Proofs.YtonbhpadoplpkaaGreat
/- The package divide: divide, wrong, Trunc, Floor, Exact, Mod. -/
namespace Go.Proofs.YtonbhpadoplpkaaGreat
open Go.RowKit Go.Deep
theorem Own.part {w : World} {base : Nat} {A : Option Addr} {l c : Nat} {xs : List Nat} (h : Own w base (.slice A l c) xs) (hl : xs.length ≤ 1099511627776) : Part w base (.slice A l c) (val xs) := by
  obtain ⟨A', c', hv, hc, hlim, _⟩ := h.form
  injection hv with e1 e2 e3
  subst e1 e2 e3
  exact ⟨_, _, xs, rfl, hc, hl, hlim, h.fresh, rfl⟩
theorem lc_lt_of {m n : Nat} (h : (limbs m).length < (limbs n).length) : m < n := by
  rcases Nat.lt_or_ge m n with h1 | h1
  · exact h1
  · have := limbs_mono h1
    omega
set_option maxRecDepth 100000 in
theorem divide_divide (A1 A2 : Option Addr) (c1 c2 m n l1 l2 : Nat) (w : World) (h1 : Lim w w.heap.size A1 (limbs m)) (h2 : Lim w w.heap.size A2 (limbs n)) (e1 : l1 = (limbs m).length) (e2 : l2 = (limbs n).length) (hl1 : l1 ≤ 4096) (hl2 : l2 ≤ 4096) (hc1 : l1 ≤ c1) (hn : n ≠ 0) (hg : l2 ≤ 1200 ∨ l1 ≤ l2 + 800) :
    Calls Tryz.prog 50 #[.slice A1 l1 c1, .slice A2 l2 c2] w fun e w' => ∃ u v, e = .returned (.tuple #[u, v]) ∧ Part w' w.heap.size u (m / n) ∧ Part w' w.heap.size v (m % n) ∧ Sep u v ∧ Below w.heap.size w w' := by
  have hl1I : (l1 : Int) ≤ 4096 := by omega
  have hl2I : (l2 : Int) ≤ 4096 := by omega
  have H1 := Lib.hid h1
  have H2 := Lib.hid h2
  have E1 := Lib.hid e1
  have E2 := Lib.hid e2
  have HC1 := Lib.hid hc1
  have HN := Lib.hid hn
  have HL1 := Lib.hid hl1
  have HL2 := Lib.hid hl2
  have l20 : 0 < l2 := by
    rcases Nat.eq_zero_or_pos l2 with h | h
    · exact absurd (limbs_eq_nil.1 (List.eq_nil_of_length_eq_zero (by omega))) hn
    · exact h
  by_cases hlt : l1 < l2
  · have hltI : (l1 : Int) < (l2 : Int) := by omega
    have HLT := Lib.hid hlt
    clear h1 h2 e1 e2 hc1 hn hl1 hl2 hlt hg l20
    go_enter Tryz.func50, Tryz.ntmps50
    have HO : Own (w.alloc (.cells #[] 85)) w.heap.size (.slice (some ⟨w.heap.size, 0, none⟩) 0 0) [] := by
      have h := Own.made w w.heap.size 0 0 (Nat.le_refl _) (Nat.le_refl _) (by omega)
      rwa [show madeCells #[.int .u64 0] 0 = #[] by simp [madeCells]] at h
    have HB : Below w.heap.size w (w.alloc (.cells #[] 85)) := (Below.refl _ _).alloc (Nat.le_refl _) _
    go_wp2_with (at_builtin; refine append_lim (w0 := w) w.heap.size rfl _ _ rfl _ [] A1 l1 c1 (limbs m) (by rfl) (by rfl) E1.out (H1.out.below HB) HO HB HB.size (by have := HL1.out; have := E1.out; simp; omega) fun v1 w1 hown hbel hgrow _ => ?_)
    obtain ⟨A, k, c, rfl⟩ := hown.slice
    go_wp2_with fail
    go_ret2
    have hmn := lc_lt_of (m := m) (n := n) (by rw [← E1.out, ← E2.out]; exact HLT.out)
    refine ⟨_, _, rfl, ?_, ?_, Sep.nil _, hbel⟩
    · rw [Nat.div_eq_of_lt hmn]; exact Part.nil _ _
    · rw [Nat.mod_eq_of_lt hmn]
      have h := Own.part (by simpa using hown) (xs := limbs m) (by have := HL1.out; have := E1.out; omega)
      rwa [val_limbs] at h
  · have hltI : ¬ (l1 : Int) < (l2 : Int) := by omega
    by_cases h21 : l2 = 1
    · subst h21
      obtain ⟨ad, rfl, hb, hcell⟩ := h2.at_ (k := 0) (by omega)
      obtain ⟨d, hd⟩ : ∃ d, (limbs n).getD 0 0 = d := ⟨_, rfl⟩
      have hdn : d = n := by
        have h3 := val_limbs n
        rcases hx : limbs n with _ | ⟨x, xs⟩
        · rw [hx] at e2; simp at e2
        · rw [hx] at e2 h3 hd
          have : xs = [] := by simpa using e2.symm
          subst this
          simp [val] at h3 hd
          omega
      have hdW : d < W64 := hd ▸ h2.small.getD 0
      rw [hd] at hcell
      rw [hdn] at hcell hdW
      rw [show ad.add 0 = ad from rfl] at hcell
      replace hltI : ¬ (l1 : Int) < 1 := by omega
      have HDW := Lib.hid hdW
      clear h1 h2 e1 e2 hc1 hn hl1 hl2 hlt hg l20 hd hdn hdW
      go_enter Tryz.func50, Tryz.ntmps50
      go_wp2_with fail
      have C := divide_short A1 c1 (limbs m) n w (Nat.le_refl _) H1.out (by have := HL1.out; have := E1.out; omega) HDW.out (by have := HN.out; omega)
      rw [← E1.out, val_limbs] at C
      refine C.mono ?_
      rintro e w1 ⟨u, v, rfl, hu, hv, hs, hb1⟩
      have HU := Lib.hid hu
      have HV := Lib.hid hv
      have HS := Lib.hid hs
      clear C hu hv hs
      go_wp2_with fail
      go_ret2
      exact ⟨_, _, rfl, HU.out, HV.out, HS.out, hb1⟩
    · have h21I : ((l2 : Int) == 1) = false := beq_eq_false_iff_ne.2 (by omega)
      have C := divide_long A1 A2 c1 c2 (l1 - l2) (l2 - 2) (limbs m) (limbs n) w h1 h2 (by omega) (by omega) (by omega) (by
        have h3 := norm_limbs n
        rcases h3 with h3 | h3
        · rw [h3] at e2; simp at e2; omega
        · rw [show l2 - 2 + 1 = (limbs n).length - 1 by omega]; exact h3)
      rw [← e1, ← e2, val_limbs, val_limbs] at C
      have HCC := Lib.hid C
      have hq : ((l2 : Int) ≤ 1200) ∨ (1200 < (l2 : Int) ∧ (l1 : Int) - (l2 : Int) ≤ 800) := by omega
      clear h1 h2 e1 e2 hc1 hn hl1 hl2 hlt hg l20 h21 C
      rcases hq with hq | ⟨hq1, hq2⟩
      · go_enter Tryz.func50, Tryz.ntmps50
        go_wp2_with fail
        refine HCC.out.mono ?_
        rintro e w1 ⟨u, v, rfl, hu, hv, hs, hb1⟩
        have HU := Lib.hid hu
        have HV := Lib.hid hv
        have HS := Lib.hid hs
        clear hu hv hs
        go_wp2_with fail
        go_ret2
        exact ⟨_, _, rfl, HU.out, HV.out, HS.out, hb1⟩
      · go_enter Tryz.func50, Tryz.ntmps50
        go_wp2_with fail
        refine HCC.out.mono ?_
        rintro e w1 ⟨u, v, rfl, hu, hv, hs, hb1⟩
        have HU := Lib.hid hu
        have HV := Lib.hid hv
        have HS := Lib.hid hs
        clear hu hv hs
        go_wp2_with fail
        go_ret2
        exact ⟨_, _, rfl, HU.out, HV.out, HS.out, hb1⟩
end Go.Proofs.YtonbhpadoplpkaaGreat
/- The package divide: wrong, Trunc, Floor, Exact, Mod. -/
namespace Go.Proofs.YtonbhpadoplpkaaGreat
open Go.RowKit Go.Deep
theorem boxH4 (w : World) (x y x' y' x2 y2 x3 y3 : Value) : ∃ W g h r q, (((w.alloc (.cells #[x, y] 24)).alloc (.cells #[x', y'] 24)).alloc (.cells #[x2, y2] 24)).alloc (.cells #[x3, y3] 24) = W ∧ w.heap.size = g ∧ w.heap.size + 1 = h ∧ w.heap.size + 1 + 1 = r ∧ w.heap.size + 1 + 1 + 1 = q ∧
    Hid (Box2 W g x y) ∧ Hid (Box2 W h x' y') ∧ Hid (Box2 W r x2 y2) ∧ Hid (Box2 W q x3 y3) ∧ Hid (w.heap.size = g ∧ g + 1 = h ∧ g + 2 = r ∧ g + 3 = q) ∧ Hid (W.heap.size = g + 4) ∧ Below w.heap.size w W := by
  obtain ⟨W1, g, h, r, hW, hg, hh, hr, ⟨h1, h2⟩, b1, b2, b3, hb, hs⟩ := box_three w x y x' y' x2 y2
  rw [hW]
  obtain ⟨W2, q, hW2, hq, b4, hb2, hs2⟩ := box_new W1 x3 y3
  have hb3 : Below W1.heap.size W1 W2 := by rw [hq]; exact hb2
  have b1' := b1.below hb3 b1.lt
  have b2' := b2.below hb3 b2.lt
  have b3' := b3.below hb3 b3.lt
  exact ⟨W2, g, h, r, q, hW2, hg, hh, hr, by omega, Lib.hid b1', Lib.hid b2', Lib.hid b3', Lib.hid b4, Lib.hid (by omega), Lib.hid (by omega), by rw [hg]; exact hb.trans (hb2.mono (by omega))⟩
theorem Part.put {w w' : World} {g base : Nat} {v : Value} {n : Nat} (h : Part w base v n) (p : Put g w w') : Part w' base v n := by
  obtain ⟨A, c, xs, h1, h2, h3, h4, h5, h6⟩ := h
  exact ⟨A, c, xs, h1, h2, h3, h4.put p, h5.put p, h6⟩
theorem raw_right (v : Value) (x : Raw) (w : World) (h : RawV w v x) : Calls Tryz.prog 37 #[v] w fun e w' => e = .returned (.bool (rightInt x)) ∧ Below w.heap.size w w' := by
  obtain ⟨A, l, c, rfl, hl, hc, hlim⟩ := h
  exact limb_right x.1 A l c x.2 w (Nat.le_refl _) hlim hl
/-- Why two records are not divided. -/
def wrongE (x y : Raw) : Int := if rightInt x && rightInt y then (if y.2.length = 0 then 7 else 0) else 2
set_option maxRecDepth 100000 in
theorem divide_wrong (u v : Value) (x y : Raw) (w : World) (hu : RawV w u x) (hv : RawV w v y) :
    Calls Tryz.prog 49 #[u, v] w fun e w' => e = .returned (.int .i64 (wrongE x y)) ∧ Below w.heap.size w w' := by
  obtain ⟨b1, A1, l1, c1, rfl, HU⟩ := hu.open
  obtain ⟨b2, A2, l2, c2, rfl, HV⟩ := hv.open
  have HL2 := Lib.hid HV.out.parts.2.1
  clear hu hv
  go_enter Tryz.func49, Tryz.ntmps49
  go_wp2_with fail
  obtain ⟨W0, g, h, hW, hg, hr, bx, by_, G_g, S_W0, hb⟩ := boxH2 w (.bool b1) (.slice A1 l1 c1) (.bool b2) (.slice A2 l2 c2)
  rw [hW, hr, hg]
  replace HU := Lib.hid (HU.out.stay hb)
  replace HV := Lib.hid (HV.out.stay hb)
  have B_W0 := Lib.hid (show Since w W0 from hb)
  clear hW hg hr hb
  have a0 := bx.out.cell0
  have a1 := bx.out.cell1
  go_wp2_with fail
  refine (raw_right _ x W0 HU.out).mono ?_
  rintro e w1 ⟨rfl, hb⟩
  replace HU := Lib.hid (HU.out.stay hb)
  replace HV := Lib.hid (HV.out.stay hb)
  replace bx := Lib.hid (bx.out.stay hb)
  replace by_ := Lib.hid (by_.out.stay hb)
  replace B_W0 := Lib.hid (B_W0.out.stay hb)
  clear hb a0 a1
  rcases hr : rightInt x
  · have HE := Lib.hid (show wrongE x y = 2 by unfold wrongE; rw [hr]; rfl)
    clear hr
    go_wp2_with fail
    go_ret
    rw [HE.out]
    exact ⟨rfl, B_W0.out⟩
  · have HR := Lib.hid hr
    clear hr
    have a0 := by_.out.cell0
    have a1 := by_.out.cell1
    go_wp2_with fail
    refine (raw_right _ y _ HV.out).mono ?_
    rintro e w2 ⟨rfl, hb⟩
    replace bx := Lib.hid (bx.out.stay hb)
    replace by_ := Lib.hid (by_.out.stay hb)
    replace B_W0 := Lib.hid (B_W0.out.stay hb)
    clear hb a0 a1
    rcases hr : rightInt y
    · have HE := Lib.hid (show wrongE x y = 2 by unfold wrongE; rw [hr, HR.out]; rfl)
      clear hr
      go_wp2_with fail
      go_ret
      rw [HE.out]
      exact ⟨rfl, B_W0.out⟩
    · have a0 := by_.out.cell0
      have a1 := by_.out.cell1
      by_cases h0 : l2 = 0
      · subst h0
        have HE := Lib.hid (show wrongE x y = 7 by unfold wrongE; rw [hr, HR.out, ← HL2.out]; rfl)
        clear hr
        go_wp2_with fail
        go_ret
        rw [HE.out]
        exact ⟨rfl, B_W0.out⟩
      · have HE := Lib.hid (show wrongE x y = 0 by unfold wrongE; rw [hr, HR.out, ← HL2.out, if_neg h0]; rfl)
        have h0I : ((l2 : Int) == 0) = false := beq_eq_false_iff_ne.2 (by omega)
        clear hr h0
        go_wp2_with fail
        go_ret
        rw [HE.out]
        exact ⟨rfl, B_W0.out⟩
set_option maxRecDepth 100000 in
theorem divide_Trunc_bad (u v : Value) (x y : Raw) (E : Int) (w : World) (hu : RawV w u x) (hv : RawV w v y) (hE : wrongE x y = E) (h0 : E ≠ 0) :
    Calls Tryz.prog 14 #[u, v] w fun e w' => e = .returned (.tuple #[none2, none2, .int .i64 E]) ∧ Below w.heap.size w w' := by
  obtain ⟨b1, A1, l1, c1, rfl, HU⟩ := hu.open
  obtain ⟨b2, A2, l2, c2, rfl, HV⟩ := hv.open
  have HE := Lib.hid hE
  have h0I : ((E : Int) != 0) = true := by rw [bne_iff_ne]; exact h0
  clear hu hv hE h0
  go_enter Tryz.func14, Tryz.ntmps14
  go_wp2_with fail
  obtain ⟨W0, g, h, r, q, hW, hg, hh, hr, hq, bx, by_, br, bq, G_g, S_W0, hb⟩ := boxH4 w (.bool b1) (.slice A1 l1 c1) (.bool b2) (.slice A2 l2 c2) (.bool false) (.slice none 0 0) (.bool false) (.slice none 0 0)
  rw [hW, hq, hr, hh, hg]
  replace HU := Lib.hid (HU.out.stay hb)
  replace HV := Lib.hid (HV.out.stay hb)
  have B_W0 := Lib.hid (show Since w W0 from hb)
  clear hW hg hh hr hq hb
  have a0 := bx.out.cell0
  have a1 := bx.out.cell1
  have b0 := by_.out.cell0
  have b1 := by_.out.cell1
  go_wp2_with fail
  refine (divide_wrong _ _ x y W0 HU.out HV.out).mono ?_
  rintro e w1 ⟨rfl, hb⟩
  rw [HE.out]
  replace bx := Lib.hid (bx.out.stay hb)
  replace by_ := Lib.hid (by_.out.stay hb)
  replace br := Lib.hid (br.out.stay hb)
  replace bq := Lib.hid (bq.out.stay hb)
  replace B_W0 := Lib.hid (B_W0.out.stay hb)
  clear hb a0 a1 b0 b1
  have hne : ¬ r = q := by have := G_g.out; omega
  have HGG := Lib.hid (show w.heap.size ≤ r ∧ w.heap.size ≤ q by have := G_g.out; omega)
  have c0 := br.out.cell0
  have c1' := br.out.cell1
  have f0 := br.out.free 0
  have f1 := br.out.free 1
  have d0 := bq.out.cell0
  have d1 := bq.out.cell1
  have g0 := bq.out.free 0
  have g1 := bq.out.free 1
  have bh := Box2.far (h := q) (a := .bool false) (b := .slice none 0 0) (br.out.store (a := .bool false) (b := .slice none 0 0)) (fun e => hne e.symm)
  have bk := (Box2.far (h := r) (a := .bool false) (b := .slice none 0 0) bq.out hne).store (a := .bool false) (b := .slice none 0 0)
  go_wp2_with fail
  refine bodyPost_ret (v := .tuple #[.agg #[.bool false, (.slice none 0 0)], .agg #[.bool false, (.slice none 0 0)], (.int .i64 E)]) (by
    rw [results_rec2 rfl]
    have hld := run_loadVar_row (P := Tryz.prog) _ r 24 24 #[.bool false, (.slice none 0 0)] (0, 0) _ bh Tryz.underlying24 rfl (by kernel_rfl)
    have hld2 := run_loadVar_row (P := Tryz.prog) _ q 24 24 #[.bool false, (.slice none 0 0)] (0, 0) _ bk Tryz.underlying24 rfl (by kernel_rfl)
    simp [asAddr, Result.andThen, hld, hld2]) rfl ?_
  exact ⟨rfl, store2_below (store2_below B_W0.out HGG.out.1) HGG.out.2⟩
theorem wrongE_int {x y : Int} (lx : lc x.natAbs ≤ 4096) (ly : lc y.natAbs ≤ 4096) (h0 : y ≠ 0) : wrongE (rawOf x) (rawOf y) = 0 := by
  unfold wrongE
  have h1 := right_of lx
  have h2 := right_of ly
  have h3 : (limbs y.natAbs).length ≠ 0 := fun h => by have := limbs_eq_nil.1 (List.eq_nil_of_length_eq_zero h); omega
  unfold rawOf
  rw [h1, h2, if_neg h3]; rfl
set_option maxHeartbeats 1000000 in
set_option maxRecDepth 100000 in
theorem divide_Trunc (u v : Value) (x y : Int) (w : World) (hu : IntV w u x) (hv : IntV w v y) (lx : lc x.natAbs ≤ 4096) (ly : lc y.natAbs ≤ 4096) (h0 : y ≠ 0) (hg : lc y.natAbs ≤ 1200 ∨ lc x.natAbs ≤ lc y.natAbs + 800) :
    Calls Tryz.prog 14 #[u, v] w fun e w' => ∃ p q, e = .returned (.tuple #[p, q, .int .i64 0]) ∧ RawAt w' w.heap.size p (rawOf (x.tdiv y)) ∧ RawAt w' w.heap.size q (rawOf (x.tmod y)) ∧ Sep p q ∧ Below w.heap.size w w' := by
  obtain ⟨b1, A1, l1, c1, rfl, HU⟩ := hu.open
  obtain ⟨b2, A2, l2, c2, rfl, HV⟩ := hv.open
  have HP1 := Lib.hid HU.out.parts
  have HP2 := Lib.hid HV.out.parts
  have HWR := Lib.hid (wrongE_int lx ly h0)
  have HLX := Lib.hid lx
  have HLY := Lib.hid ly
  have HG := Lib.hid hg
  have H0 := Lib.hid h0
  clear hu hv lx ly h0 hg
  go_enter Tryz.func14, Tryz.ntmps14
  go_wp2_with fail
  obtain ⟨W0, g, h, r, q, hW, hg, hh, hr, hq, bx, by_, br, bq, G_g, S_W0, hb⟩ := boxH4 w (.bool b1) (.slice A1 l1 c1) (.bool b2) (.slice A2 l2 c2) (.bool false) (.slice none 0 0) (.bool false) (.slice none 0 0)
  rw [hW, hq, hr, hh, hg]
  replace HU := Lib.hid (HU.out.stay hb)
  replace HV := Lib.hid (HV.out.stay hb)
  have B_W0 := Lib.hid (show Since w W0 from hb)
  clear hW hg hh hr hq hb
  have a0 := bx.out.cell0
  have a1 := bx.out.cell1
  have b0 := by_.out.cell0
  have b1 := by_.out.cell1
  go_wp2_with fail
  refine (divide_wrong _ _ _ _ W0 HU.out.raw HV.out.raw).mono ?_
  rintro e w1 ⟨rfl, hb⟩
  rw [HWR.out]
  replace HU := Lib.hid (HU.out.stay hb)
  replace HV := Lib.hid (HV.out.stay hb)
  replace bx := Lib.hid (bx.out.stay hb)
  replace by_ := Lib.hid (by_.out.stay hb)
  replace br := Lib.hid (br.out.stay hb)
  replace bq := Lib.hid (bq.out.stay hb)
  replace B_W0 := Lib.hid (B_W0.out.stay hb)
  clear hb a0 a1 b0 b1
  have a0 := bx.out.cell0
  have a1 := bx.out.cell1
  have b0 := by_.out.cell0
  have b1 := by_.out.cell1
  go_wp2_with fail
  have C := divide_divide A1 A2 c1 c2 x.natAbs y.natAbs l1 l2 w1 HU.out.parts.2.2.2 HV.out.parts.2.2.2 HP1.out.2.1 HP2.out.2.1 (by have h1 := HP1.out.2.1; have h2 := HLX.out; unfold lc at h2; omega) (by have h1 := HP2.out.2.1; have h2 := HLY.out; unfold lc at h2; omega) HP1.out.2.2.1 (by have := H0.out; omega) (by have h1 := HG.out; unfold lc at h1; have h2 := HP1.out.2.1; have h3 := HP2.out.2.1; omega)
  refine C.mono ?_
  rintro e w2 ⟨p, q', rfl, hp, hq, hs, hb⟩
  clear C a0 a1 b0 b1
  replace bx := Lib.hid (bx.out.stay hb)
  replace by_ := Lib.hid (by_.out.stay hb)
  replace br := Lib.hid (br.out.stay hb)
  replace bq := Lib.hid (bq.out.stay hb)
  have HPP := Lib.hid (hp.since B_W0.out.size)
  have HPQ := Lib.hid (hq.since B_W0.out.size)
  have HSP := Lib.hid hs
  replace B_W0 := Lib.hid (B_W0.out.stay hb)
  clear hp hq hs hb HU HV
  go_upto_region 5 with (fail)
  have a0 := later_cell bx.out.cell0
  have a1 := later_cell bx.out.cell1
  have b0 := later_cell by_.out.cell0
  have b1 := later_cell by_.out.cell1
  refine wp_region_stages (fun w' => ∃ δ : Later Nix w2, w' = δ.world) [(false, 0), (false, 1), (false, 2), (false, 3), (false, 4), (false, 5), (false, 7), (false, 8), (false, 9), (true, 6)] 10 [.reads [_, _, _, _, _, _, _, _, _], .loud _] [_, _, _, _] (by kernel_rfl) (by kernel_rfl) rfl rfl ?_ ?_
  · exact ⟨⟨_, nix_drawn w2⟩, rfl⟩
  refine wpStages_reads ?_
  repeat (go_big_quiet_step (fail))
  refine wpQuiet_nil ?_
  refine wpStages_loud rfl ?_
  intro K hK
  go_big_op
  clear a0 a1 b0 b1
  have ex : Ext Nix w2 (w2.drewN 1) := nix_drawn w2
  have hb : Below w2.heap.size w2 (w2.drewN 1) := below_drewN (Below.refl _ _) 1
  replace HPP := Lib.hid (HPP.out.stay hb)
  replace HPQ := Lib.hid (HPQ.out.stay hb)
  replace bx := Lib.hid (bx.out.stay hb)
  replace by_ := Lib.hid (by_.out.stay hb)
  replace br := Lib.hid (br.out.stay hb)
  replace bq := Lib.hid (bq.out.stay hb)
  replace B_W0 := Lib.hid (B_W0.out.stay hb)
  clear hb
  refine ((divide_made (!(b1 == b2)) p _ _ _ HPP.out)).mono ?_
  rintro e w3 ⟨up, rfl, hup, hk1, hb⟩
  replace ex : Ext Nix w2 w3 := ex.later (Ext.of_below hb)
  replace HPQ := Lib.hid (HPQ.out.stay hb)
  replace bx := Lib.hid (bx.out.stay hb)
  replace by_ := Lib.hid (by_.out.stay hb)
  replace br := Lib.hid (br.out.stay hb)
  replace bq := Lib.hid (bq.out.stay hb)
  replace B_W0 := Lib.hid (B_W0.out.stay hb)
  clear hb
  refine hK _ _ ⟨⟨_, ex⟩, rfl⟩ ?_
  clear hK K
  obtain ⟨bu, Au, lu, cu, rfl, HU⟩ := hup.open
  have HK1 := Lib.hid hk1
  clear hup hk1 HPP
  refine wpStages_nil ?_
  go_wp2_with fail
  refine (divide_made b1 q' _ _ _ HPQ.out).mono ?_
  rintro e w4 ⟨uq, rfl, huq, hk2, hb⟩
  replace HU := Lib.hid (HU.out.stay hb)
  replace bx := Lib.hid (bx.out.stay hb)
  replace by_ := Lib.hid (by_.out.stay hb)
  replace br := Lib.hid (br.out.stay hb)
  replace bq := Lib.hid (bq.out.stay hb)
  replace B_W0 := Lib.hid (B_W0.out.stay hb)
  obtain ⟨bv, Av, lv, cv, rfl, HV⟩ := huq.open
  have HK2 := Lib.hid hk2
  clear huq hk2 hb HPQ
  have hne : ¬ r = q := by have := G_g.out; omega
  have HGG := Lib.hid (show w.heap.size ≤ r ∧ w.heap.size ≤ q by have := G_g.out; omega)
  have c0 := br.out.cell0
  have c1' := br.out.cell1
  have f0 := br.out.free 0
  have f1 := br.out.free 1
  have d0 := bq.out.cell0
  have d1 := bq.out.cell1
  have g0 := bq.out.free 0
  have g1 := bq.out.free 1
  have n0 := br.out.nums
  have n1 := bq.out.nums
  have bh := Box2.far (h := q) (a := .bool bv) (b := .slice Av lv cv) (br.out.store (a := .bool bu) (b := .slice Au lu cu)) (fun e => hne e.symm)
  have bk := Box2.far (h := r) (a := .bool bu) (b := .slice Au lu cu) bq.out hne
  have HBK := Lib.hid (And.intro bh bk)
  have HN := Lib.hid (And.intro n0 n1)
  clear bh bk n0 n1
  go_wp2_with fail
  refine bodyPost_ret (v := .tuple #[.agg #[.bool bu, (.slice Au lu cu)], .agg #[.bool bv, (.slice Av lv cv)], (.int .i64 0)]) (by
    rw [results_rec2 rfl]
    have hld := run_loadVar_row (P := Tryz.prog) _ r 24 24 #[.bool bu, (.slice Au lu cu)] (0, 0) _ HBK.out.1 Tryz.underlying24 rfl (by kernel_rfl)
    have hld2 := run_loadVar_row (P := Tryz.prog) _ q 24 24 #[.bool bv, (.slice Av lv cv)] (0, 0) _ HBK.out.2.store Tryz.underlying24 rfl (by kernel_rfl)
    simp [asAddr, Result.andThen, hld, hld2]) rfl ?_
  have e1 : signed (!(b1 == b2)) (x.natAbs / y.natAbs) = x.tdiv y := by rw [HP1.out.1, HP2.out.1]; exact signed_quo x y
  have e2 : signed b1 (x.natAbs % y.natAbs) = x.tmod y := by rw [HP1.out.1]; exact signed_rem x y
  rw [e1] at HU
  rw [e2] at HV
  exact ⟨_, _, rfl, (HU.out.store2 HN.out.1 _ _).store2 HBK.out.2.nums _ _, (HV.out.store2 HN.out.1 _ _).store2 HBK.out.2.nums _ _, HSP.out.sub HK1.out HK2.out, store2_below (store2_below B_W0.out HGG.out.1) HGG.out.2⟩
theorem fmod_size (x : Int) {y : Int} (h0 : y ≠ 0) : (x.fmod y).natAbs < y.natAbs := by
  rcases Int.lt_trichotomy y 0 with h | h | h
  · have h1 := Int.fmod_lt_of_pos (-x) (b := -y) (by omega)
    have h2 := Int.fmod_nonneg_of_pos (-x) (b := -y) (by omega)
    rw [Int.neg_fmod_neg] at h1 h2
    omega
  · exact absurd h h0
  · have h1 := Int.fmod_lt_of_pos x h
    have h2 := Int.fmod_nonneg_of_pos x h
    omega
/-- Two blocks. -/
def Duo (r q : Nat) : Nat → Prop := fun i => i = r ∨ i = q
theorem later_duo {w : World} {p : Addr} {v : Value} {r q : Nat} (h : w.cell? p = some v) (h1 : p.block ≠ r) (h2 : p.block ≠ q) (δ : Later (Duo r q) w) : δ.world.cell? p = some v := by
  rw [cell_of_block (w := w) (δ.ext.block _ (World.block_lt_of_cell? w p h) (fun h => h.elim h1 h2))]; exact h
theorem duo_drawn {r q : Nat} (w : World) (hr : NoNum w r) (hq : NoNum w q) : Ext (Duo r q) w (w.drewN 1) := ⟨rfl, rfl, rfl, Nat.le_refl _, fun _ _ _ => rfl, fun i hi _ => by rcases hi with rfl | rfl; exact hr; exact hq⟩
theorem Ext.back {G : Nat → Prop} {w w' : World} (h : Ext G w w') : Ext G w w := ⟨rfl, rfl, rfl, Nat.le_refl _, fun _ _ _ => rfl, h.num⟩
theorem Ext.duo1 {r q : Nat} {w w1 w2 : World} (e : Ext (Duo r q) w w1) (hr : NoNum w r) (hq : NoNum w q) (k : Ext (· = r) w1 w2) : Ext (Duo r q) w w2 :=
  (e.trans k).mono (fun i _ hi => hi.elim (fun h => h) (fun h => .inl h)) (fun i hi _ => by rcases hi with rfl | rfl; exact hr; exact hq)
theorem Ext.duo2 {r q : Nat} {w w1 w2 : World} (e : Ext (Duo r q) w w1) (hr : NoNum w r) (hq : NoNum w q) (k : Ext (· = q) w1 w2) : Ext (Duo r q) w w2 :=
  (e.trans k).mono (fun i _ hi => hi.elim (fun h => h) (fun h => .inr h)) (fun i hi _ => by rcases hi with rfl | rfl; exact hr; exact hq)
theorem Sep.of_raw {w w' : World} {b1 : Nat} {u v : Value} {x y : Raw} (hu : RawAt w b1 u x) (hv : RawAt w' w.heap.size v y) : Sep u v := by
  obtain ⟨A, l, c, rfl, _, _, _, hf⟩ := hu
  obtain ⟨B, m, d, rfl, _, _, _, hg⟩ := hv
  intro a b h1 h2
  rcases hf with ⟨rfl, _⟩ | ⟨g, cs, rfl, _, h3, _⟩
  · cases h1
  · rcases hg with ⟨rfl, _⟩ | ⟨g', cs', rfl, h4, _, _⟩
    · cases h2
    · injection h1 with h1
      injection h2 with h2
      have := (Array.getElem?_eq_some_iff.1 h3).1
      simp only at h1 h2
      omega
theorem floor_case (x y : Int) (h0 : y ≠ 0) : (x.tmod y ≠ 0 ∧ decide (x < 0) ≠ decide (y < 0) ∧ x.fdiv y = x.tdiv y - 1 ∧ x.fmod y = x.tmod y + y) ∨ ((x.tmod y = 0 ∨ decide (x < 0) = decide (y < 0)) ∧ x.fdiv y = x.tdiv y ∧ x.fmod y = x.tmod y) := by
  have h := Int.fdiv_eq_tdiv (a := x) (b := y)
  have h1 := Int.mul_tdiv_add_tmod x y
  have h2 := Int.mul_fdiv_add_fmod x y
  have h3 : y ∣ x ↔ x.tmod y = 0 := Int.dvd_iff_tmod_eq_zero
  by_cases hm : x.tmod y = 0
  · rw [if_pos (h3.2 hm), Int.sub_zero] at h
    exact .inr ⟨.inl hm, h, by rw [h] at h2; omega⟩
  · rw [if_neg (fun hd => hm (h3.1 hd))] at h
    by_cases hs : decide (x < 0) = decide (y < 0)
    · have e : x.fdiv y = x.tdiv y := by
        rw [h]
        by_cases hx : 0 ≤ x
        · have hy : 0 ≤ y := by
            rw [decide_eq_false (by omega)] at hs
            have := of_decide_eq_false hs.symm; omega
          rw [if_pos hx, if_pos hy, Int.sub_zero]
        · have hy : ¬ 0 ≤ y := by
            rw [decide_eq_true (by omega)] at hs
            have := of_decide_eq_true hs.symm; omega
          rw [if_neg hx, if_neg hy, Int.sign_eq_neg_one_of_neg (by omega)]; omega
      exact .inr ⟨.inr hs, e, by rw [e] at h2; omega⟩
    · have e : x.fdiv y = x.tdiv y - 1 := by
        rw [h]
        by_cases hx : 0 ≤ x
        · have hy : ¬ 0 ≤ y := fun hy => hs (by rw [decide_eq_false (by omega), decide_eq_false (by omega)])
          rw [if_pos hx, if_neg hy]
        · have hy : 0 ≤ y := by
            rcases Decidable.em (0 ≤ y) with hy | hy
            · exact hy
            · exact absurd (by rw [decide_eq_true (by omega), decide_eq_true (by omega)]) hs
          rw [if_neg hx, if_pos hy, Int.sign_eq_one_of_pos (by omega)]
      refine .inl ⟨hm, hs, e, ?_⟩
      rw [e, Int.mul_sub, Int.mul_one] at h2
      omega
theorem floor_sizes {x y : Int} (h0 : y ≠ 0) (hm : x.tmod y ≠ 0) : (x.tdiv y - 1).natAbs ≤ x.natAbs ∧ (x.tmod y).natAbs < y.natAbs ∧ (x.tdiv y).natAbs ≤ x.natAbs := by
  have h1 := Int.natAbs_tdiv x y
  have h2 := Int.natAbs_tmod x y
  have h3 : (x.tmod y).natAbs ≠ 0 := by omega
  obtain ⟨m, hm'⟩ : ∃ m, x.natAbs = m := ⟨_, rfl⟩
  obtain ⟨n, hn⟩ : ∃ n, y.natAbs = n := ⟨_, rfl⟩
  have hn0 : 0 < n := by omega
  have h1' : (x.tdiv y).natAbs = m / n := by rw [h1, hm', hn]; rfl
  have h2' : (x.tmod y).natAbs = m % n := by rw [h2, hm', hn]
  rw [hm', hn]
  have h4 : n ≠ 1 := by rintro rfl; rw [h2', Nat.mod_one] at h3; exact h3 rfl
  have h5 : m / n ≤ m / 2 := Nat.div_le_div_left (by omega) (by omega)
  have h6 := Nat.mod_lt m hn0
  have h7 : m ≠ 0 := by rintro rfl; rw [h2', Nat.zero_mod] at h3; exact h3 rfl
  omega
set_option maxHeartbeats 1000000 in
set_option maxRecDepth 100000 in
theorem divide_Floor (u v : Value) (x y : Int) (w : World) (hu : IntV w u x) (hv : IntV w v y) (lx : lc x.natAbs ≤ 4096) (ly : lc y.natAbs ≤ 4096) (h0 : y ≠ 0) (hg : lc y.natAbs ≤ 1200 ∨ lc x.natAbs ≤ lc y.natAbs + 800) :
    Calls Tryz.prog 13 #[u, v] w fun e w' => ∃ p q, e = .returned (.tuple #[p, q, .int .i64 0]) ∧ RawAt w' w.heap.size p (rawOf (x.fdiv y)) ∧ RawAt w' w.heap.size q (rawOf (x.fmod y)) ∧ Sep p q ∧ Below w.heap.size w w' := by
  obtain ⟨b1, A1, l1, c1, rfl, HU⟩ := hu.open
  obtain ⟨b2, A2, l2, c2, rfl, HV⟩ := hv.open
  have HP1 := Lib.hid HU.out.parts
  have HP2 := Lib.hid HV.out.parts
  have HLX := Lib.hid lx
  have HLY := Lib.hid ly
  have HG := Lib.hid hg
  have H0 := Lib.hid h0
  clear hu hv lx ly h0 hg
  go_enter Tryz.func13, Tryz.ntmps13
  go_wp2_with fail
  obtain ⟨W0, g, h, r, q, hW, hg, hh, hr, hq, bx, by_, br, bq, G_g, S_W0, hb⟩ := boxH4 w (.bool b1) (.slice A1 l1 c1) (.bool b2) (.slice A2 l2 c2) (.bool false) (.slice none 0 0) (.bool false) (.slice none 0 0)
  rw [hW, hq, hr, hh, hg]
  replace HU := Lib.hid (HU.out.stay hb)
  replace HV := Lib.hid (HV.out.stay hb)
  have B_W0 := Lib.hid (show Since w W0 from hb)
  clear hW hg hh hr hq hb
  have a0 := bx.out.cell0
  have a1 := bx.out.cell1
  have b0 := by_.out.cell0
  have b1 := by_.out.cell1
  go_wp2_with fail
  refine (divide_Trunc _ _ x y W0 HU.out HV.out HLX.out HLY.out H0.out HG.out).mono ?_
  rintro e w1 ⟨p, q', rfl, hp, hq, hs, hb⟩
  obtain ⟨bp, Ap, lp, cp, rfl, HP⟩ := hp.open
  obtain ⟨bm, Am, lm, cm, rfl, HM⟩ := hq.open
  have HS := Lib.hid hs
  clear hp hq hs
  replace HV := Lib.hid (HV.out.stay hb)
  replace bx := Lib.hid (bx.out.stay hb)
  replace by_ := Lib.hid (by_.out.stay hb)
  replace br := Lib.hid (br.out.stay hb)
  replace bq := Lib.hid (bq.out.stay hb)
  replace B_W0 := Lib.hid (B_W0.out.stay hb)
  clear hb a0 a1 b0 b1
  go_upto_region 2 with (fail)
  have HQL := Lib.hid bq.out.lt
  obtain ⟨W2, gp, gm, hW, hg, hr, bpp, bmm, G_gp, S_W2, hb⟩ := boxH2 w1 (.bool bp) (.slice Ap lp cp) (.bool bm) (.slice Am lm cm)
  rw [hW, hr, hg]
  replace HV := Lib.hid (HV.out.stay hb)
  replace HP := Lib.hid (HP.out.stay hb)
  replace HM := Lib.hid (HM.out.stay hb)
  replace bx := Lib.hid (bx.out.stay hb)
  replace by_ := Lib.hid (by_.out.stay hb)
  replace br := Lib.hid (br.out.stay hb)
  replace bq := Lib.hid (bq.out.stay hb)
  replace B_W0 := Lib.hid (B_W0.out.stay hb)
  have B_W2 := Lib.hid (show Since w1 W2 from hb)
  clear hW hg hr hb
  replace HQL := Lib.hid (show q < gp ∧ gp < gm by have h1 := HQL.out; have h2 := G_gp.out; omega)
  have HLM := Lib.hid HM.out.rawV.parts.2.1
  go_cut [31] (fun t wx => W2 = wx ∧ t = .bool (decide (lm ≠ 0) && (b1 != b2)))
  case first =>
    have a0 := bx.out.cell0
    have a1 := bx.out.cell1
    have k0 := by_.out.cell0
    have k1 := by_.out.cell1
    have c0 := bmm.out.cell0
    have c1 := bmm.out.cell1
    by_cases hl : lm = 0
    · subst hl
      go_wp2_with fail
      go_meet
      exact ⟨rfl, rfl⟩
    · have hlI : (0 : Int) < (lm : Int) := by omega
      have HL := Lib.hid hl
      clear hl
      rcases b1 <;> rcases b2
      all_goals
        go_wp2_with fail
        go_meet
        exact ⟨rfl, by rw [decide_eq_true HL.out]; rfl⟩
  case rest =>
    obtain ⟨rfl, rfl⟩ := hcut
    have HZ := Lib.hid (show lm = 0 ↔ x.tmod y = 0 by
      rw [HLM.out]
      constructor
      · intro h; have := limbs_eq_nil.1 (List.eq_nil_of_length_eq_zero h); omega
      · intro h; rw [h]; show (limbs 0).length = 0; rw [limbs_zero]; rfl)
    go_upto_if 31 with (fail)
    go_cut [] (fun wx => ∃ (bp : Bool) (Ap : Option Addr) (lp cp : Nat) (bm : Bool) (Am : Option Addr) (lm cm : Nat), Hid (Box2 wx gp (.bool bp) (.slice Ap lp cp)) ∧ Hid (Box2 wx gm (.bool bm) (.slice Am lm cm)) ∧ Hid (RawAt wx W0.heap.size (.agg #[.bool bp, .slice Ap lp cp]) (rawOf (x.fdiv y))) ∧ Hid (RawAt wx W0.heap.size (.agg #[.bool bm, .slice Am lm cm]) (rawOf (x.fmod y))) ∧
      Hid (Sep (.agg #[.bool bp, .slice Ap lp cp]) (.agg #[.bool bm, .slice Am lm cm])) ∧ Hid (Box2 wx r (.bool false) (.slice none 0 0)) ∧ Hid (Box2 wx q (.bool false) (.slice none 0 0)) ∧ Hid (Since w wx))
    case first =>
      rcases floor_case x y H0.out with ⟨hm, hs, hf, hr⟩ | ⟨hms, hf, hr⟩
      · have hcond : (decide (lm ≠ 0) && (b1 != b2)) = true := by
          have e : decide (lm ≠ 0) = true := decide_eq_true (fun h => hm (HZ.out.1 h))
          rw [HP1.out.1, HP2.out.1, e, Bool.true_and, bne_iff_ne]; exact hs
        have HSZ := Lib.hid (floor_sizes H0.out hm)
        have HFR := Lib.hid (And.intro hf hr)
        rw [hcond]
        clear hcond hm hs hf hr
        go_upto_region 3 with (fail)
        have a0 := bpp.out.cell0
        have a1 := bpp.out.cell1
        have fr := bpp.out.free
        have HL1 := Lib.hid (show lc (x.tdiv y - 1).natAbs ≤ 4096 ∧ lc (x.tdiv y).natAbs ≤ 4096 ∧ lc (1 : Int).natAbs ≤ 4096 from ⟨Nat.le_trans (lc_mono HSZ.out.1) HLX.out, Nat.le_trans (lc_mono HSZ.out.2.2) HLX.out, Nat.le_trans one_len (by omega)⟩)
        go_region_with (first
          | (go_at_call 48
             refine (limb_Of 1 _ (by omega) (by omega)).mono ?_
             rintro e w3 ⟨u1, rfl, hu1, hb⟩
             have HO := Lib.hid hu1.rawV.int
             replace hb : Below W2.heap.size W2 w3 := (below_drewN (Below.refl _ W2) 1).trans hb
             have HS3 := Lib.hid (show W0.heap.size ≤ w3.heap.size by have h1 := hb.size; have h2 := G_gp.out; have h3 := G_g.out; have h4 := S_W0.out; have h5 := HQL.out; have h6 := S_W2.out; omega)
             clear hu1 a0 a1 fr
             replace HP := Lib.hid (HP.out.stay hb)
             replace HM := Lib.hid (HM.out.stay hb)
             replace HV := Lib.hid (HV.out.stay hb)
             replace bpp := Lib.hid (bpp.out.stay hb)
             replace bmm := Lib.hid (bmm.out.stay hb)
             replace by_ := Lib.hid (by_.out.stay hb)
             replace br := Lib.hid (br.out.stay hb)
             replace bq := Lib.hid (bq.out.stay hb)
             replace B_W0 := Lib.hid (B_W0.out.stay hb)
             have a0 := bpp.out.cell0
             have a1 := bpp.out.cell1
             have fr := bpp.out.free
             clear hb)
          | (go_at_call 47
             refine (limb_Sub _ _ (x.tdiv y) 1 _ HP.out.rawV.int HO.out HL1.out.2.1 HL1.out.2.2).mono ?_
             rintro e w4 ⟨u2, rfl, hu2, hb⟩
             rw [longR_ok HL1.out.1, ← HFR.out.1] at hu2
             rw [longE_ok HL1.out.1]
             obtain ⟨bp', Ap', lp', cp', rfl, HPN⟩ := (hu2.since (base' := W0.heap.size) HS3.out).open
             clear hu2 a0 a1 fr HP HO
             replace HM := Lib.hid (HM.out.stay hb)
             replace HV := Lib.hid (HV.out.stay hb)
             replace bpp := Lib.hid (bpp.out.stay hb)
             replace bmm := Lib.hid (bmm.out.stay hb)
             replace by_ := Lib.hid (by_.out.stay hb)
             replace br := Lib.hid (br.out.stay hb)
             replace bq := Lib.hid (bq.out.stay hb)
             replace B_W0 := Lib.hid (B_W0.out.stay hb)
             have a0 := bpp.out.cell0
             have a1 := bpp.out.cell1
             have fr := bpp.out.free
             have HB4 := Lib.hid (show W0.heap.size ≤ gp by have h1 := G_g.out; have h2 := S_W0.out; have h3 := HQL.out; omega)
             clear hb))
        all_goals
          obtain ⟨W5, hW5, bpn, p5⟩ := bpp.out.write (.bool bp') (.slice Ap' lp' cp')
          rw [hW5]
          replace HM := Lib.hid (HM.out.put p5)
          replace HV := Lib.hid (HV.out.put p5)
          replace HPN := Lib.hid (HPN.out.put p5)
          replace bmm := Lib.hid (bmm.out.put p5 (by have := HQL.out; omega))
          replace by_ := Lib.hid (by_.out.put p5 (by have h1 := HQL.out; have h2 := G_g.out; omega))
          replace br := Lib.hid (br.out.put p5 (by have h1 := HQL.out; have h2 := G_g.out; omega))
          replace bq := Lib.hid (bq.out.put p5 (by have h1 := HQL.out; have h2 := G_g.out; omega))
          replace B_W0 := Lib.hid (B_W0.out.put p5 (by have h1 := HQL.out; have h2 := G_g.out; omega))
          clear hW5 p5 bpp a0 a1 fr
          have a0 := bmm.out.cell0
          have a1 := bmm.out.cell1
          have k0 := by_.out.cell0
          have k1 := by_.out.cell1
          have HL2 := Lib.hid (show lc (x.tmod y + y).natAbs ≤ 4096 ∧ lc (x.tmod y).natAbs ≤ 4096 by
            have h := fmod_size x H0.out
            rw [HFR.out.2] at h
            exact ⟨Nat.le_trans (lc_mono (Nat.le_of_lt h)) HLY.out, Nat.le_trans (lc_mono (Nat.le_of_lt HSZ.out.2.1)) HLY.out⟩)
          go_wp2_with fail
          refine (limb_Add _ _ (x.tmod y) y _ HM.out.rawV.int HV.out HL2.out.2 HLY.out).mono ?_
          rintro e w6 ⟨u3, rfl, hu3, hb⟩
          rw [longR_ok HL2.out.1, ← HFR.out.2] at hu3
          rw [longE_ok HL2.out.1]
          have hs := Sep.of_raw HPN.out hu3
          obtain ⟨bm', Am', lm', cm', rfl, HMN⟩ := hu3.open
          have HSN := Lib.hid hs
          replace HMN := Lib.hid (HMN.out.since (base' := W0.heap.size) (by have h1 := bpn.out.lt; have h2 := HB4.out; omega))
          clear hu3 hs HM HV by_ k0 k1 a0 a1
          replace HPN := Lib.hid (HPN.out.stay hb)
          replace bpn := Lib.hid (bpn.out.stay hb)
          replace bmm := Lib.hid (bmm.out.stay hb)
          replace br := Lib.hid (br.out.stay hb)
          replace bq := Lib.hid (bq.out.stay hb)
          replace B_W0 := Lib.hid (B_W0.out.stay hb)
          clear hb
          have a0 := bmm.out.cell0
          have a1 := bmm.out.cell1
          have fr := bmm.out.free
          go_upto_region 5 with (fail)
          obtain ⟨W7, hW7, bmn, p7⟩ := bmm.out.write (.bool bm') (.slice Am' lm' cm')
          rw [hW7]
          replace HMN := Lib.hid (HMN.out.put p7)
          replace HPN := Lib.hid (HPN.out.put p7)
          replace bpn := Lib.hid (bpn.out.put p7 (by have := HQL.out; omega))
          replace br := Lib.hid (br.out.put p7 (by have h1 := HQL.out; have h2 := G_g.out; omega))
          replace bq := Lib.hid (bq.out.put p7 (by have h1 := HQL.out; have h2 := G_g.out; omega))
          replace B_W0 := Lib.hid (B_W0.out.put p7 (by have h1 := HQL.out; have h2 := G_g.out; omega))
          clear hW7 p7 a0 a1 fr
          go_meet
          exact ⟨bp', Ap', lp', cp', bm', Am', lm', cm', bpn, bmn, HPN, HMN, HSN, br, bq, B_W0⟩
      · have hcond : (decide (lm ≠ 0) && (b1 != b2)) = false := by
          rw [HP1.out.1, HP2.out.1]
          rcases hms with h | h
          · have e : decide (lm ≠ 0) = false := decide_eq_false (fun h1 => h1 (HZ.out.2 h))
            rw [e, Bool.false_and]
          · rw [h]; simp
        have HFR := Lib.hid (And.intro hf hr)
        rw [hcond]
        clear hcond hms hf hr
        go_wp2_with fail
        go_meet
        rw [HFR.out.1, HFR.out.2]
        exact ⟨bp, Ap, lp, cp, bm, Am, lm, cm, bpp, bmm, HP, HM, HS, br, bq, B_W0⟩
    case rest =>
      clear HP HM bpp bmm bx by_ br bq B_W0 HS HLM HZ HV
      obtain ⟨bp, Ap, lp, cp, bm, Am, lm, cm, bpp, bmm, HP, HM, HS, br, bq, B_W0⟩ := hcut
      go_upto_region 5 with (fail)
      have hne : r ≠ q := by have := G_g.out; omega
      have HGG := Lib.hid (show w.heap.size ≤ r ∧ w.heap.size ≤ q ∧ w.heap.size ≤ W0.heap.size by have h1 := G_g.out; have h2 := S_W0.out; omega)
      have HX := Lib.hid (show (gp ≠ r ∧ gp ≠ q) ∧ (gm ≠ r ∧ gm ≠ q) by have h1 := G_g.out; have h2 := HQL.out; omega)
      have HNE := Lib.hid hne
      clear hne
      have a0 := later_duo bpp.out.cell0 HX.out.1.1 HX.out.1.2
      have a1 := later_duo bpp.out.cell1 HX.out.1.1 HX.out.1.2
      have k0 := later_duo bmm.out.cell0 HX.out.2.1 HX.out.2.2
      have k1 := later_duo bmm.out.cell1 HX.out.2.1 HX.out.2.2
      have HNN := Lib.hid (And.intro br.out.nums bq.out.nums)
      haveI : Nonempty (Later (Duo r q) wc) := ⟨⟨wc, (duo_drawn wc HNN.out.1 HNN.out.2).back⟩⟩
      refine wp_region_stages (fun w' => ∃ δ : Later (Duo r q) wc, w' = δ.world) [(false, 0), (false, 1), (false, 2), (true, 3), (true, 4)] 5 [.reads [_, _, _], .loud _, .loud _] [_] (by kernel_rfl) (by kernel_rfl) rfl rfl ?_ ?_
      · exact ⟨⟨_, duo_drawn wc HNN.out.1 HNN.out.2⟩, rfl⟩
      refine wpStages_reads ?_
      repeat (go_big_quiet_step (fail))
      refine wpQuiet_nil ?_
      clear a0 a1 k0 k1
      have ex : Ext Nix wc (wc.drewN 1) := nix_drawn wc
      have hb : Below wc.heap.size wc (wc.drewN 1) := below_drewN (Below.refl _ _) 1
      replace HP := Lib.hid (HP.out.stay hb)
      replace HM := Lib.hid (HM.out.stay hb)
      replace br := Lib.hid (br.out.stay hb)
      replace bq := Lib.hid (bq.out.stay hb)
      replace B_W0 := Lib.hid (B_W0.out.stay hb)
      clear hb
      replace ex := Lib.hid (duo_drawn wc HNN.out.1 HNN.out.2)
      refine wpStages_loud rfl ?_
      intro K hK
      have c0 := br.out.cell0
      have c1' := br.out.cell1
      have f0 := br.out.free
      go_big_op
      clear c0 c1' f0
      obtain ⟨Wr, hWr, br', p⟩ := br.out.write (.bool bp) (.slice Ap lp cp)
      rw [hWr]
      replace ex := Lib.hid (ex.out.duo1 HNN.out.1 HNN.out.2 p.ext)
      replace HP := Lib.hid (HP.out.put p)
      replace HM := Lib.hid (HM.out.put p)
      replace bq := Lib.hid (bq.out.put p HNE.out.symm)
      replace B_W0 := Lib.hid (B_W0.out.put p HGG.out.1)
      refine hK _ _ ⟨⟨_, ex.out⟩, rfl⟩ ?_
      clear hK K hWr p br
      refine wpStages_loud rfl ?_
      intro K hK
      have c0 := bq.out.cell0
      have c1' := bq.out.cell1
      have f0 := bq.out.free
      go_big_op
      clear c0 c1' f0
      obtain ⟨Wq, hWq, bq', p⟩ := bq.out.write (.bool bm) (.slice Am lm cm)
      rw [hWq]
      replace ex := Lib.hid (ex.out.duo2 HNN.out.1 HNN.out.2 p.ext)
      replace HP := Lib.hid (HP.out.put p)
      replace HM := Lib.hid (HM.out.put p)
      replace br' := Lib.hid (br'.out.put p HNE.out)
      replace B_W0 := Lib.hid (B_W0.out.put p HGG.out.2.1)
      refine hK _ _ ⟨⟨_, ex.out⟩, rfl⟩ ?_
      clear hK K hWq p bq
      refine wpStages_nil ?_
      go_wp2_with fail
      refine bodyPost_ret (v := .tuple #[.agg #[.bool bp, (.slice Ap lp cp)], .agg #[.bool bm, (.slice Am lm cm)], (.int .i64 0)]) (by
        rw [results_rec2 rfl]
        have hld := run_loadVar_row (P := Tryz.prog) _ r 24 24 #[.bool bp, (.slice Ap lp cp)] (0, 0) _ br'.out Tryz.underlying24 rfl (by kernel_rfl)
        have hld2 := run_loadVar_row (P := Tryz.prog) _ q 24 24 #[.bool bm, (.slice Am lm cm)] (0, 0) _ bq'.out Tryz.underlying24 rfl (by kernel_rfl)
        simp [asAddr, Result.andThen, hld, hld2]) rfl ?_
      exact ⟨_, _, rfl, HP.out.since HGG.out.2.2, HM.out.since HGG.out.2.2, HS.out, B_W0.out⟩
set_option maxHeartbeats 1000000 in
set_option maxRecDepth 100000 in
theorem divide_Exact (u v : Value) (x y : Int) (w : World) (hu : IntV w u x) (hv : IntV w v y) (lx : lc x.natAbs ≤ 4096) (ly : lc y.natAbs ≤ 4096) (h0 : y ≠ 0) (hg : lc y.natAbs ≤ 1200 ∨ lc x.natAbs ≤ lc y.natAbs + 800) :
    Calls Tryz.prog 15 #[u, v] w fun e w' => ∃ p, e = .returned (.tuple #[p, .bool (decide (x.tmod y = 0)), .int .i64 0]) ∧ RawAt w' w.heap.size p (if x.tmod y = 0 then rawOf (x.tdiv y) else (false, [])) ∧ Below w.heap.size w w' := by
  obtain ⟨b1, A1, l1, c1, rfl, HU⟩ := hu.open
  obtain ⟨b2, A2, l2, c2, rfl, HV⟩ := hv.open
  have HLX := Lib.hid lx
  have HLY := Lib.hid ly
  have HG := Lib.hid hg
  have H0 := Lib.hid h0
  clear hu hv lx ly h0 hg
  go_enter Tryz.func15, Tryz.ntmps15
  go_wp2_with fail
  obtain ⟨W0, g, h, r, hW, hg, hh, hr, bx, by_, br, G_g, S_W0, hb⟩ := boxH3 w (.bool b1) (.slice A1 l1 c1) (.bool b2) (.slice A2 l2 c2) (.bool false) (.slice none 0 0)
  rw [hW, hr, hh, hg]
  replace HU := Lib.hid (HU.out.stay hb)
  replace HV := Lib.hid (HV.out.stay hb)
  have B_W0 := Lib.hid (show Since w W0 from hb)
  clear hW hg hh hr hb
  have a0 := bx.out.cell0
  have a1 := bx.out.cell1
  have k0 := by_.out.cell0
  have k1 := by_.out.cell1
  go_wp2_with fail
  refine (divide_Trunc _ _ x y W0 HU.out HV.out HLX.out HLY.out H0.out HG.out).mono ?_
  rintro e w1 ⟨p, q', rfl, hp, hq, hs, hb⟩
  obtain ⟨bp, Ap, lp, cp, rfl, HP⟩ := hp.open
  obtain ⟨bm, Am, lm, cm, rfl, HM⟩ := hq.open
  clear hp hq hs
  replace br := Lib.hid (br.out.stay hb)
  replace B_W0 := Lib.hid (B_W0.out.stay hb)
  clear hb a0 a1 k0 k1
  go_upto_region 2 with (fail)
  have HQL := Lib.hid br.out.lt
  obtain ⟨W2, gp, gm, hW, hg, hr, bpp, bmm, G_gp, S_W2, hb⟩ := boxH2 w1 (.bool bp) (.slice Ap lp cp) (.bool bm) (.slice Am lm cm)
  rw [hW, hr, hg]
  replace HP := Lib.hid (HP.out.stay hb)
  replace HM := Lib.hid (HM.out.stay hb)
  replace br := Lib.hid (br.out.stay hb)
  replace B_W0 := Lib.hid (B_W0.out.stay hb)
  have B_W2 := Lib.hid (show Since w1 W2 from hb)
  clear hW hg hr hb
  replace HQL := Lib.hid (show r < gp ∧ gp < gm by have h1 := HQL.out; have h2 := G_gp.out; omega)
  have HZ := Lib.hid (show lm = 0 ↔ x.tmod y = 0 by
    rw [HM.out.rawV.parts.2.1]
    constructor
    · intro h; have := limbs_eq_nil.1 (List.eq_nil_of_length_eq_zero h); omega
    · intro h; rw [h]; show (limbs 0).length = 0; rw [limbs_zero]; rfl)
  have HGG := Lib.hid (show w.heap.size ≤ r ∧ w.heap.size ≤ W0.heap.size by have h1 := G_g.out; have h2 := S_W0.out; omega)
  have a0 := bpp.out.cell0
  have a1 := bpp.out.cell1
  have k0 := bmm.out.cell0
  have k1 := bmm.out.cell1
  have c0 := br.out.cell0
  have c1 := br.out.cell1
  have fr := br.out.free
  by_cases hl : lm = 0
  · subst hl
    have HZ0 := Lib.hid (HZ.out.1 rfl)
    go_wp2_with fail
    refine bodyPost_ret (v := .tuple #[.agg #[.bool bp, (.slice Ap lp cp)], (.bool true), (.int .i64 0)]) (by
      rw [results_rec_two rfl]
      have hld := run_loadVar_row (P := Tryz.prog) _ r 24 24 #[.bool bp, (.slice Ap lp cp)] (0, 0) _ br.out.store Tryz.underlying24 rfl (by kernel_rfl)
      simp [asAddr, Result.andThen, hld]) rfl ?_
    exact ⟨_, rfl, (HP.out.since HGG.out.2).store2 br.out.nums _ _, store2_below B_W0.out HGG.out.1⟩
  · have hlI : (0 : Int) < (lm : Int) := by omega
    have HZ0 := Lib.hid (show x.tmod y ≠ 0 from fun h => hl (HZ.out.2 h))
    clear hl
    go_wp2_with fail
    refine bodyPost_ret (v := .tuple #[.agg #[.bool false, (.slice none 0 0)], (.bool false), (.int .i64 0)]) (by
      rw [results_rec_two rfl]
      have hld := run_loadVar_row (P := Tryz.prog) _ r 24 24 #[.bool false, (.slice none 0 0)] (0, 0) _ br.out.store Tryz.underlying24 rfl (by kernel_rfl)
      simp [asAddr, Result.andThen, hld]) rfl ?_
    exact ⟨_, rfl, RawAt.zero _ _, store2_below B_W0.out HGG.out.1⟩
/-- Mod's errno and answer. -/
def modE (y : Int) : Int := if y < 0 then 2 else 0
def modR (x y : Int) : Raw := if y < 0 then (false, []) else rawOf (x.fmod y)
set_option maxHeartbeats 1000000 in
set_option maxRecDepth 100000 in
theorem divide_Mod (u v : Value) (x y : Int) (w : World) (hu : IntV w u x) (hv : IntV w v y) (lx : lc x.natAbs ≤ 4096) (ly : lc y.natAbs ≤ 4096) (h0 : y ≠ 0) (hg : lc y.natAbs ≤ 1200 ∨ lc x.natAbs ≤ lc y.natAbs + 800) :
    Calls Tryz.prog 16 #[u, v] w fun e w' => ∃ p, e = .returned (.tuple #[p, .int .i64 (modE y)]) ∧ RawAt w' w.heap.size p (modR x y) ∧ Below w.heap.size w w' := by
  obtain ⟨b1, A1, l1, c1, rfl, HU⟩ := hu.open
  obtain ⟨b2, A2, l2, c2, rfl, HV⟩ := hv.open
  have HP2 := Lib.hid HV.out.parts.1
  have HLX := Lib.hid lx
  have HLY := Lib.hid ly
  have HG := Lib.hid hg
  have H0 := Lib.hid h0
  clear hu hv lx ly h0 hg
  go_enter Tryz.func16, Tryz.ntmps16
  go_wp2_with fail
  obtain ⟨W0, g, h, r, hW, hg, hh, hr, bx, by_, br, G_g, S_W0, hb⟩ := boxH3 w (.bool b1) (.slice A1 l1 c1) (.bool b2) (.slice A2 l2 c2) (.bool false) (.slice none 0 0)
  rw [hW, hr, hh, hg]
  replace HU := Lib.hid (HU.out.stay hb)
  replace HV := Lib.hid (HV.out.stay hb)
  have B_W0 := Lib.hid (show Since w W0 from hb)
  clear hW hg hh hr hb
  have a0 := bx.out.cell0
  have a1 := bx.out.cell1
  have k0 := by_.out.cell0
  have k1 := by_.out.cell1
  go_wp2_with fail
  refine (divide_Floor _ _ x y W0 HU.out HV.out HLX.out HLY.out H0.out HG.out).mono ?_
  rintro e w1 ⟨p, q', rfl, hp, hq, hs, hb⟩
  obtain ⟨bp, Ap, lp, cp, rfl, HP⟩ := hp.open
  obtain ⟨bm, Am, lm, cm, rfl, HM⟩ := hq.open
  clear hp hq hs
  replace by_ := Lib.hid (by_.out.stay hb)
  replace br := Lib.hid (br.out.stay hb)
  replace B_W0 := Lib.hid (B_W0.out.stay hb)
  clear hb a0 a1 k0 k1
  go_upto_region 2 with (fail)
  obtain ⟨W2, gp, gm, hW, hg, hr, bpp, bmm, G_gp, S_W2, hb⟩ := boxH2 w1 (.bool bp) (.slice Ap lp cp) (.bool bm) (.slice Am lm cm)
  rw [hW, hr, hg]
  replace HM := Lib.hid (HM.out.stay hb)
  replace by_ := Lib.hid (by_.out.stay hb)
  replace br := Lib.hid (br.out.stay hb)
  replace B_W0 := Lib.hid (B_W0.out.stay hb)
  have B_W2 := Lib.hid (show Since w1 W2 from hb)
  clear hW hg hr hb
  have HGG := Lib.hid (show w.heap.size ≤ r ∧ w.heap.size ≤ W0.heap.size by have h1 := G_g.out; have h2 := S_W0.out; omega)
  have a0 := by_.out.cell0
  have a1 := by_.out.cell1
  have k0 := bmm.out.cell0
  have k1 := bmm.out.cell1
  have c0 := br.out.cell0
  have c1 := br.out.cell1
  have fr := br.out.free
  by_cases hy : y < 0
  · obtain rfl : b2 = true := by rw [HP2.out]; exact decide_eq_true hy
    have HY := Lib.hid hy
    clear hy
    go_wp2_with fail
    refine bodyPost_ret (v := .tuple #[.agg #[.bool false, (.slice none 0 0)], (.int .i64 2)]) (by
      rw [results_cell_tmp rfl]
      have hld := run_loadVar_row (P := Tryz.prog) _ r 24 24 #[.bool false, (.slice none 0 0)] (0, 0) _ br.out.store Tryz.underlying24 rfl (by kernel_rfl)
      simp [asAddr, Result.andThen, hld]) rfl ?_
    have e1 : modE y = 2 := if_pos HY.out
    have e2 : modR x y = (false, []) := if_pos HY.out
    rw [e1, e2]
    exact ⟨_, rfl, RawAt.zero _ _, store2_below B_W0.out HGG.out.1⟩
  · obtain rfl : b2 = false := by rw [HP2.out]; exact decide_eq_false hy
    have HY := Lib.hid hy
    clear hy
    go_wp2_with fail
    refine bodyPost_ret (v := .tuple #[.agg #[.bool bm, (.slice Am lm cm)], (.int .i64 0)]) (by
      rw [results_cell_tmp rfl]
      have hld := run_loadVar_row (P := Tryz.prog) _ r 24 24 #[.bool bm, (.slice Am lm cm)] (0, 0) _ br.out.store Tryz.underlying24 rfl (by kernel_rfl)
      simp [asAddr, Result.andThen, hld]) rfl ?_
    have e1 : modE y = 0 := if_neg (by have := HY.out; omega)
    have e2 : modR x y = rawOf (x.fmod y) := if_neg (by have := HY.out; omega)
    rw [e1, e2]
    exact ⟨_, rfl, (HM.out.since HGG.out.2).store2 br.out.nums _ _, store2_below B_W0.out HGG.out.1⟩
end Go.Proofs.YtonbhpadoplpkaaGreat
/- The package times: trim, school. -/
namespace Go.Proofs.YtonbhpadoplpkaaGreat
open Go.RowKit Go.Deep
set_option maxHeartbeats 400000 in
theorem times_trim (A : Option Addr) (c : Nat) (xs : List Nat) (w : World) {B : Nat} (h : Lim w B A xs) (_hc : xs.length ≤ c) (_hl : xs.length ≤ 35184372088832) :
    Calls Tryz.prog 153 #[.slice A xs.length c] w fun e w' => e = .returned (.slice A (limbs (val xs)).length c) ∧ w = w' := by
  rw [← trimL_eq h.small]
  go_enter Tryz.func153, Tryz.ntmps153
  go_wp2
  go_loop [0] (fun v => ∃ n : Nat, n ≤ xs.length ∧ v = .slice A n c ∧ trimL (xs.take n) = trimL xs) (fun v => match v with | .slice _ n _ => n | _ => 0)
  case atStart => exact ⟨xs.length, Nat.le_refl _, rfl, by simp⟩
  case round =>
    obtain ⟨n, hn, rfl, ht⟩ := hrel
    have HT := Lib.hid ht
    clear ht
    rcases n with _ | n
    · go_wp2
      go_ret
      exact ⟨by rw [← HT.out]; rfl, rfl⟩
    · obtain ⟨ad, rfl, hb, hcell⟩ := h.at_ (k := n) (by omega)
      generalize hx : xs.getD n 0 = x at *
      have HX := Lib.hid hx
      clear hx
      go_wp2
      · have hx : ((x : Int) == 0) = true := by assumption
        simp only [beq_iff_eq] at hx
        refine ⟨⟨n, by omega, rfl, ?_⟩, by simp⟩
        rw [← HT.out, trimL_zero xs n (by omega) (by have := HX.out; omega)]
      · have hx : ((x : Int) == 0) = false := by assumption
        simp only [beq_eq_false_iff_ne] at hx
        go_ret
        have e : (trimL xs).length = n + 1 := by
          rw [← HT.out, trimL_pos xs n (by omega) (by have := HX.out; omega), List.length_take]; omega
        exact ⟨by rw [e]; rfl, rfl⟩
theorem school_step {lo hi o s1 c1 s c2 carry x y : Nat} (h1 : lo + W64 * hi = x * y) (h2 : s1 + W64 * c1 = lo + carry + 0) (h3 : s + W64 * c2 = o + s1 + 0) : s + W64 * (hi + c1 + c2) = x * y + o + carry := by
  rw [Nat.mul_add, Nat.mul_add]; omega
set_option maxHeartbeats 1600000 in
set_option maxRecDepth 100000 in
theorem times_school (A1 A2 : Option Addr) (l1 l2 c1 c2 : Nat) (xs ys : List Nat) (w : World) (h1 : Lim w w.heap.size A1 xs) (h2 : Lim w w.heap.size A2 ys) (e1 : l1 = xs.length) (e2 : l2 = ys.length) (hl : l1 + l2 ≤ 1099511627776) :
    Calls Tryz.prog 121 #[.slice A1 l1 c1, .slice A2 l2 c2] w fun e w' => ∃ A c, e = .returned (.slice A (limbs (val xs * val ys)).length c) ∧ (limbs (val xs * val ys)).length ≤ c ∧ Lim w' w'.heap.size A (limbs (val xs * val ys)) ∧ Fresh w' w.heap.size A c ∧ Below w.heap.size w w' := by
  have hmk := make_limbs (l1 + l2) (by omega)
  rw [Int.natCast_add] at hmk
  have E1 := Lib.hid e1
  have E2 := Lib.hid e2
  clear e1 e2
  go_enter Tryz.func121, Tryz.ntmps121
  go_wp2_with fail
  go_loopw [20] (fun t31 wr => ∃ (i : Nat) (os : List Nat), i ≤ l1 ∧ os.length = l1 + l2 ∧ t31 = .int .i64 (i : Int) ∧ Row wr w.heap.size os ∧ Fresh wr w.heap.size (some ⟨w.heap.size, 0, none⟩) (l1 + l2) ∧ Below w.heap.size w wr ∧ val (os.take (i + l2)) = val (xs.take i) * val ys) (fun t31 _ => l1 - (intOf t31).toNat)
  case atStart =>
    refine ⟨0, List.replicate (l1 + l2) 0, by omega, by simp, rfl, Row.made _ _, Fresh.made _ _, (Below.refl _ _).alloc (Nat.le_refl _) _, ?_⟩
    rw [List.take_replicate, val_zeros]; simp
  case round =>
    obtain ⟨i, os0, hi, ho0, rfl, hrow0, hfr0, hbel0, hval0⟩ := hrel
    have HV0 := Lib.hid hval0
    have HO0 := Lib.hid ho0
    have HF0 := Lib.hid hfr0
    clear hval0 ho0 hfr0
    by_cases hlt : i < l1
    · obtain ⟨x, hx⟩ : ∃ x, xs.getD i 0 = x := ⟨_, rfl⟩
      have hxs : x < W64 := hx ▸ h1.small.getD i
      have HX := Lib.hid hx
      have hltI : (i : Int) < (l1 : Int) := by omega
      clear hx
      go_wp2_with fail
      obtain ⟨wo, hwo⟩ : ∃ wo : World, wo = wr := ⟨_, rfl⟩
      subst hwo
      go_loopw [7, 25] (fun t8 t38 wr => ∃ (k c : Nat) (os : List Nat), k ≤ l2 ∧ c < W64 ∧ os.length = l1 + l2 ∧ t8 = .int .u64 (c : Int) ∧ t38 = .int .i64 (k : Int) ∧ Row wr w.heap.size os ∧ Fresh wr w.heap.size (some ⟨w.heap.size, 0, none⟩) (l1 + l2) ∧ Below w.heap.size w wr ∧ os.drop (i + k) = os0.drop (i + k) ∧ val (os.take (i + k)) + W64 ^ (i + k) * c = val (os0.take (i + k)) + W64 ^ i * (x * val (ys.take k))) (fun _ t38 _ => l2 - (intOf t38).toNat)
      case atStart => exact ⟨0, 0, os0, by omega, W64_pos, HO0.out, rfl, rfl, hrow0, HF0.out, hbel0, rfl, by simp⟩
      case round =>
        clear hrow0 hbel0
        obtain ⟨k, c, os, hk, hc, ho, rfl, rfl, hrow, hfr, hbel, hdrop, hval⟩ := hrel
        have HV := Lib.hid hval
        have HO := Lib.hid ho
        have HD := Lib.hid hdrop
        have HF := Lib.hid hfr
        clear hval ho hdrop hfr
        by_cases hlk : k < l2
        · obtain ⟨ad, hA1, hb, hcell⟩ := (h1.below hbel).at_ (k := i) (by rw [← E1.out]; exact hlt)
          subst hA1
          rw [HX.out] at hcell
          obtain ⟨ad2, hA2, hb2, hcell2⟩ := (h2.below hbel).at_ (k := k) (by rw [← E2.out]; exact hlk)
          subst hA2
          obtain ⟨y, hy⟩ : ∃ y, ys.getD k 0 = y := ⟨_, rfl⟩
          have hys : y < W64 := hy ▸ h2.small.getD k
          rw [hy] at hcell2
          have hcg := hrow.cell (k := i + k) (by rw [HO.out]; omega)
          have hfg := hrow.free (i + k)
          obtain ⟨o, hoo⟩ : ∃ o, os.getD (i + k) 0 = o := ⟨_, rfl⟩
          have hos : o < W64 := hoo ▸ hrow.small.getD (i + k)
          rw [hoo] at hcg
          have hstep := school_step (mul_split x y) (add_split (mulLo x y) c 0) (add_split o (addLo (mulLo x y) c 0) 0)
          have hbd := limb_mul_bound hxs hys hos hc hstep
          have hstep2 : val ((os.set (i + k) (addLo o (addLo (mulLo x y) c 0) 0)).take (i + (k + 1))) + W64 ^ (i + (k + 1)) * (mulHi x y + addHi (mulLo x y) c 0 + addHi o (addLo (mulLo x y) c 0) 0) = val (os0.take (i + (k + 1))) + W64 ^ i * (x * val (ys.take (k + 1))) := by
            have hV := HV.out
            have ho2 : os0.getD (i + k) 0 = o := by
              have := congrArg (fun l => l.getD 0 0) HD.out
              rw [← hoo]; simpa using this.symm
            rw [← Nat.add_assoc, val_take_set os _ _ (by rw [HO.out]; omega), val_take_step os0, val_take_step ys, hy, ho2, Nat.pow_succ]
            rw [Nat.pow_add] at hV ⊢
            generalize val (os.take (i + k)) = a1 at *
            generalize val (os0.take (i + k)) = a2 at *
            generalize val (ys.take k) = a3 at *
            generalize W64 ^ i = P at *
            generalize W64 ^ k = Q at *
            generalize addLo o (addLo (mulLo x y) c 0) 0 = s at *
            generalize mulHi x y + addHi (mulLo x y) c 0 + addHi o (addLo (mulLo x y) c 0) 0 = d at *
            have : P * Q * (s + W64 * d) = P * Q * (x * y + o + c) := by rw [hstep]
            grind
          have hb1 := lt_W64 (x := mulHi x y + addHi (mulLo x y) c 0) (by omega)
          have hb2 := lt_W64 hbd
          rw [Int.natCast_add] at hb1 hb2
          rw [Int.natCast_add] at hb2
          have HROW := Lib.hid hrow
          have HBEL := Lib.hid hbel
          have HL := Lib.hid (show (os.set (i + k) (addLo o (addLo (mulLo x y) c 0) 0)).length = l1 + l2 by rw [List.length_set, HO.out])
          have HDD := Lib.hid (show (os.set (i + k) (addLo o (addLo (mulLo x y) c 0) 0)).drop (i + (k + 1)) = os0.drop (i + (k + 1)) by
            rw [List.drop_set_of_lt (by omega)]
            have := congrArg (List.drop 1) HD.out
            simpa [Nat.add_assoc] using this)
          have HS := Lib.hid hstep2
          have HY := Lib.hid hy
          have HOO := Lib.hid hoo
          have hm := fun n => quiet_left (bits_mul64 x y hxs hys (wr.drewN n))
          have HM := Lib.hid hm
          have r1 := later_cell hcell
          clear hstep2 hstep hy hoo hm hrow hbel
          have ha1 := add64_run0 (mulLo x y) c
          have ha2 := add64_run0 o (addLo (mulLo x y) c 0)
          have hklI : (k : Int) < (l2 : Int) := by omega
          go_wp2_with fail
          go_quiet ((go_at_call 152; exact quiet_left (bits_mul64 x y hxs hys _)))
          have hrow2 := HROW.out.drewN nq
          have hbel2 := below_drewN HBEL.out nq
          have hfr2 : Fresh (wr.drewN nq) w.heap.size (some ⟨w.heap.size, 0, none⟩) (l1 + l2) := HF.out
          have hcg2 : (wr.drewN nq).cell? ⟨w.heap.size, i + k, none⟩ = some (.int .u64 (o : Int)) := hcg
          have hfg2 : (wr.drewN nq).frozen? ⟨w.heap.size, i + k, none⟩ = false := hfg
          generalize wr.drewN nq = w2 at hrow2 hbel2 hfr2 hcg2 hfg2 ⊢
          have hset := hrow2.set (k := i + k) (x := addLo o (addLo (mulLo x y) c 0) 0) (by rw [HO.out]; omega) (addLo_lt _ _ _)
          have hbel' := hbel2.setCell (p := ⟨w.heap.size, i + k, none⟩) (Nat.le_refl _) (.int .u64 (addLo o (addLo (mulLo x y) c 0) 0 : Int))
          have hfr' := hfr2.set w.heap.size (i + k) (.int .u64 (addLo o (addLo (mulLo x y) c 0) 0 : Int))
          have HSET := Lib.hid hset
          have HBL := Lib.hid hbel'
          have HFR := Lib.hid hfr'
          clear hset hbel' hfr' hrow2 hbel2 hfr2 hcg hfg r1
          go_wp2_with fail
          exact ⟨⟨k + 1, _, _, by omega, hbd, HL.out, by simp only [Int.natCast_add], by go_num, HSET.out, HFR.out, HBL.out, HDD.out, HS.out⟩, by simp [intOf]; omega⟩
        · obtain rfl : k = l2 := by omega
          have hcg := hrow.cell (k := i + k) (by rw [HO.out]; omega)
          have hfg := hrow.free (i + k)
          have hset := hrow.set (k := i + k) (x := c) (by rw [HO.out]; omega) hc
          have hbel' := hbel.setCell (p := ⟨w.heap.size, i + k, none⟩) (Nat.le_refl _) (.int .u64 (c : Int))
          have hfr' := HF.out.set w.heap.size (i + k) (.int .u64 (c : Int))
          have HL := Lib.hid (show (os.set (i + k) c).length = l1 + k by rw [List.length_set, HO.out])
          have HS := Lib.hid (show val ((os.set (i + k) c).take (i + 1 + k)) = val (xs.take (i + 1)) * val ys by
            have hV := HV.out
            have hV0 := HV0.out
            rw [show i + 1 + k = i + k + 1 by omega, val_take_set os _ _ (by rw [HO.out]; omega), hV, val_take_step xs, HX.out, List.take_of_length_le (l := ys) (by rw [← E2.out]; exact Nat.le_refl _), hV0, Nat.add_mul, Nat.mul_assoc])
          have hkkI : ¬ ((k : Int) < (k : Int)) := by omega
          go_wp2_with fail
          exact ⟨⟨i + 1, _, by omega, HL.out, by go_num, hset, hfr', hbel', HS.out⟩, by simp [intOf]; omega⟩
    · obtain rfl : i = l1 := by omega
      have HF := Lib.hid (show val os0 = val xs * val ys by
        have hV := HV0.out
        rwa [List.take_of_length_le (l := os0) (by rw [HO0.out]; exact Nat.le_refl _), List.take_of_length_le (l := xs) (by rw [← E1.out]; exact Nat.le_refl _)] at hV)
      go_wp2_with fail
      have hex : i + l2 = os0.length := HO0.out.symm
      rw [hex]
      refine (times_trim _ _ _ _ (hrow0.lim (B := w.heap.size + 1) (by omega)) (Nat.le_refl _) (by rw [HO0.out]; omega)).mono ?_
      rintro e w1 ⟨rfl, rfl⟩
      rw [HF.out]
      go_wp2_with fail
      go_ret
      have hl3 := limbs_val_le hrow0.small
      rw [HF.out] at hl3
      have hlim := (hrow0.lim (B := w.heap.size + 1) (by omega)).trim.more hrow0.lt
      rw [HF.out] at hlim
      exact ⟨_, _, rfl, hl3, hlim, by rw [← hex]; exact HF0.out, hbel0⟩
end Go.Proofs.YtonbhpadoplpkaaGreat
/- The package times: deep, told, Mul (where one of both is short). -/
namespace Go.Proofs.YtonbhpadoplpkaaGreat
open Go.RowKit Go.Deep
set_option maxRecDepth 100000 in
theorem times_deep1 (A1 A2 : Option Addr) (l1 l2 c1 c2 d g : Nat) (xs ys : List Nat) (w : World) (h1 : Lim w w.heap.size A1 xs) (h2 : Lim w w.heap.size A2 ys) (e1 : l1 = xs.length) (e2 : l2 = ys.length) (hl : l1 + l2 ≤ 1099511627776)
    (hd : w.cell? ⟨d, 0, none⟩ = some (.int .i64 24)) (hs : min l1 l2 < 24) :
    Calls Tryz.prog 120 #[.slice A1 l1 c1, .slice A2 l2 c2, .pointer (some ⟨d, 0, none⟩), .pointer (some ⟨g, 0, none⟩)] w fun e w' => ∃ A c, e = .returned (.slice A (limbs (val xs * val ys)).length c) ∧ (limbs (val xs * val ys)).length ≤ c ∧ Lim w' w'.heap.size A (limbs (val xs * val ys)) ∧ Fresh w' w.heap.size A c ∧ Below w.heap.size w w' := by
  have hsI : min (l1 : Int) (l2 : Int) < 24 := by omega
  have E1 := Lib.hid e1
  have E2 := Lib.hid e2
  clear e1 e2 hs
  go_enter Tryz.func120, Tryz.ntmps120
  go_wp2_with fail
  refine (times_school A1 A2 l1 l2 c1 c2 xs ys w h1 h2 E1.out E2.out hl).mono ?_
  rintro e w1 ⟨A, c, rfl, hc, hlim, hf, hb⟩
  go_wp2_with fail
  go_ret
  exact ⟨A, c, rfl, hc, hlim, hf, hb⟩
set_option maxRecDepth 100000 in
theorem times_deep (w : World) :
    Calls Tryz.prog 81 #[.int .i64 24] w fun e w' => ∃ d g, e = .returned (.func (.func 120) #[] #[.pointer (some ⟨d, 0, none⟩), .pointer (some ⟨g, 0, none⟩)]) ∧ d = w.heap.size ∧ g = w.heap.size + 1 ∧ w'.heap.size = w.heap.size + 2 ∧ Below w.heap.size w w' ∧
      w'.cell? ⟨d, 0, none⟩ = some (.int .i64 24) ∧ w'.cell? ⟨g, 0, none⟩ = some (.func (.func 120) #[] #[.pointer (some ⟨d, 0, none⟩), .pointer (some ⟨g, 0, none⟩)]) := by
  go_enter Tryz.func81, Tryz.ntmps81
  go_wp2_with fail
  go_ret
  refine ⟨w.heap.size, w.heap.size + 1, rfl, rfl, rfl, by simp, ?_, ?_, ?_⟩
  · first
    | exact ((Below.refl _ w).alloc (Nat.le_refl _) _).alloc (by simp) _
    | exact (((Below.refl _ w).alloc (Nat.le_refl _) _).alloc (by simp) _).setCell (p := ⟨w.heap.size + 1, 0, none⟩) (by simp) _
  · rw [cell_of_row _ _ 0 #[.int .i64 24] 3 (0, 0)]
    · rfl
    · rw [Below.heap_alloc _ _ _ (by simp)]; exact heap_alloc_new w _
  · rw [cell_of_row _ _ 0 #[.func (.func 120) #[] #[.pointer (some ⟨w.heap.size, 0, none⟩), .pointer (some ⟨w.heap.size + 1, 0, none⟩)]] _ (0, 0)]
    · rfl
    · have h := heap_alloc_new (w.alloc (.cells #[.int .i64 24] 3)) (.cells #[.func (.func 120) #[] #[.pointer (some ⟨w.heap.size, 0, none⟩), .pointer (some ⟨w.heap.size + 1, 0, none⟩)]] 87)
      simpa using h
theorem lc_mul_ge {x y : Nat} (hx : 0 < x) (hy : 0 < y) : lc x + lc y ≤ lc (x * y) + 1 := by
  have h1 : W64 ^ (lc x - 1) ≤ x := by
    have h : ¬ lc x ≤ lc x - 1 := fun h => by
      have : lc x = 0 := by omega
      have := lc_eq_zero.1 this; omega
    rw [lc_le] at h; omega
  have h2 : W64 ^ (lc y - 1) ≤ y := by
    have h : ¬ lc y ≤ lc y - 1 := fun h => by
      have : lc y = 0 := by omega
      have := lc_eq_zero.1 this; omega
    rw [lc_le] at h; omega
  have h3 := Nat.mul_le_mul h1 h2
  rw [← Nat.pow_add] at h3
  have h4 : ¬ lc (x * y) ≤ lc x - 1 + (lc y - 1) := fun h => by
    rw [lc_le] at h; omega
  omega
end Go.Proofs.YtonbhpadoplpkaaGreat
/- The package times: put, take, sum. -/
namespace Go.Proofs.YtonbhpadoplpkaaGreat
open Go.RowKit Go.Deep
/-- Row g was written; it is limbs still. -/
def Grew (w w' : World) (g : Nat) : Prop := w.grownBy w' (some g) ∧ ∀ base c, Fresh w base (some ⟨g, 0, none⟩) c → Fresh w' base (some ⟨g, 0, none⟩) c
theorem Grew.refl (w : World) (g : Nat) : Grew w w g := ⟨⟨rfl, rfl, rfl, Nat.le_refl _, fun _ _ _ => rfl⟩, fun _ _ h => h⟩
theorem Grew.set {w w1 : World} {g : Nat} (h : Grew w w1 g) (k : Nat) (u : Value) : Grew w (w1.setCell ⟨g, k, none⟩ u) g := ⟨grownBy_trans h.1 (only_set w1 ⟨g, k, none⟩ u), fun b c hf => (h.2 b c hf).set g k u⟩
theorem Grew.drewN {w w1 : World} {g : Nat} (h : Grew w w1 g) (m : Nat) : Grew w (w1.drewN m) g := ⟨grownBy_trans h.1 (drew_grown w1 m _), fun b c hf => (h.2 b c hf).below (below_drewN (Below.refl _ _) m)⟩
theorem put_step {a1 a2 P M c x d u c' y V : Nat} (h : a1 + P * c = a2 + M * V) (hs : d + W64 * c' = u + y + c) (hP : P = M * x) : a1 + P * d + P * W64 * c' = a2 + P * u + M * (V + x * y) := by
  have h5 : P * (d + W64 * c') = P * (u + y + c) := by rw [hs]
  subst hP
  grind
theorem wraps_small {n : Int} (h0 : 0 ≤ n) (h1 : n < 9223372036854775808) : IntKind.i64.wrap n = n ∧ wrap64 n = n := by
  constructor
  · rw [IntKind.wrap_i64]; omega
  · unfold wrap64; omega
theorem sum_small {a i l lo : Nat} (h : a + l ≤ lo) (hi : i < l) (hlo : lo ≤ 1099511627776) : 0 ≤ (a : Int) + (i : Int) ∧ (a : Int) + (i : Int) < 9223372036854775808 ∧ (a : Int) + (i : Int) < (lo : Int) ∧ ((a : Int) + (i : Int)).toNat = a + i := by omega
set_option maxHeartbeats 4000000 in
set_option maxRecDepth 100000 in
theorem times_put (g lo co at_ : Nat) (os : List Nat) (A2 : Option Addr) (l2 c2 : Nat) (xs : List Nat) (w : World) (hrow0 : Row w g os) (h2 : Lim w w.heap.size A2 xs) (hne : 0 < xs.length → ∀ ad, A2 = some ad → ad.block ≠ g) (elo : lo = os.length) (el2 : l2 = xs.length) (hat : at_ + l2 ≤ lo) (hfit : val os + W64 ^ at_ * val xs < W64 ^ lo) (hl : lo ≤ 1099511627776) :
    Calls Tryz.prog 154 #[.slice (some ⟨g, 0, none⟩) lo co, .slice A2 l2 c2, .int .i64 (at_ : Int)] w fun e w' => ∃ v os', e = .returned v ∧ Row w' g os' ∧ os'.length = lo ∧ val os' = val os + W64 ^ at_ * val xs ∧ Grew w w' g := by
  have HF := Lib.hid hfit
  have HLO := Lib.hid elo
  have HL2 := Lib.hid el2
  have hloI : (lo : Int) ≤ 1099511627776 := by omega
  have hatI : (at_ : Int) + (l2 : Int) ≤ (lo : Int) := by omega
  clear hfit elo el2
  go_enter Tryz.func154, Tryz.ntmps154
  go_wp2_with fail
  go_loopw [6, 11] (fun t6 t11 wr => ∃ (i c : Nat) (os1 : List Nat), i ≤ l2 ∧ c ≤ 1 ∧ t6 = .int .u64 (c : Int) ∧ t11 = .int .i64 (i : Int) ∧ Hid (os1.length = lo) ∧ Hid (Row wr g os1) ∧ Hid (Grew w wr g) ∧ Hid (os1.drop (at_ + i) = os.drop (at_ + i)) ∧ Hid (val (os1.take (at_ + i)) + W64 ^ (at_ + i) * c = val (os.take (at_ + i)) + W64 ^ at_ * val (xs.take i))) (fun _ t11 _ => l2 - (intOf t11).toNat)
  case atStart => exact ⟨0, 0, os, by omega, by omega, rfl, rfl, Lib.hid HLO.out.symm, Lib.hid hrow0, Lib.hid (Grew.refl _ _), Lib.hid rfl, Lib.hid (by simp)⟩
  case round =>
    obtain ⟨i, c, os1, hi, hc, rfl, rfl, HO, HROW, HGR, HD, HV⟩ := hrel
    by_cases hlt : i < l2
    · obtain ⟨ad, rfl, hb2, hcell⟩ := h2.at_ (k := i) (by rw [← HL2.out]; exact hlt)
      have hnb := hne (by rw [← HL2.out]; omega) ad rfl
      have hbk := block_of_add ad i
      have hcell2 : wr.cell? (ad.add i) = some (.int .u64 ((xs.getD i 0 : Nat) : Int)) := by
        rw [cell_of_block (w := w)]
        · exact hcell
        · rw [hbk]; exact HGR.out.1.block _ hb2 (by intro e; injection e with e; exact hnb e)
      obtain ⟨y, hy⟩ : ∃ y, xs.getD i 0 = y := ⟨_, rfl⟩
      obtain ⟨u, hu⟩ : ∃ u, os1.getD (at_ + i) 0 = u := ⟨_, rfl⟩
      have hyW : y < W64 := hy ▸ h2.small.getD i
      have huW : u < W64 := hu ▸ HROW.out.small.getD (at_ + i)
      rw [hy] at hcell2
      have hcg := HROW.out.cell (k := at_ + i) (by rw [HO.out]; omega)
      rw [hu] at hcg
      have hfg := HROW.out.free (at_ + i)
      have HSTEP := Lib.hid (show val ((os1.set (at_ + i) (addLo u y c)).take (at_ + (i + 1))) + W64 ^ (at_ + (i + 1)) * addHi u y c = val (os.take (at_ + (i + 1))) + W64 ^ at_ * val (xs.take (i + 1)) by
        have hV := HV.out
        have hu2 : os.getD (at_ + i) 0 = u := by rw [← hu]; exact (getD_of_drop HD.out).symm
        rw [← Nat.add_assoc, val_take_set os1 _ _ (by rw [HO.out]; omega), val_take_step os, val_take_step xs, hy, hu2, Nat.pow_succ]
        exact put_step hV (add_split u y c) (Nat.pow_add _ _ _))
      have hc1 := addHi_le huW hyW hc
      have HSET := Lib.hid (HROW.out.set (k := at_ + i) (x := addLo u y c) (by rw [HO.out]; omega) (addLo_lt _ _ _))
      have HGR2 := Lib.hid (HGR.out.set (at_ + i) (.int .u64 (addLo u y c : Nat)))
      have HO2 := Lib.hid (show (os1.set (at_ + i) (addLo u y c)).length = lo by rw [List.length_set, HO.out])
      have HD2 := Lib.hid (show (os1.set (at_ + i) (addLo u y c)).drop (at_ + (i + 1)) = os.drop (at_ + (i + 1)) by
        rw [List.drop_set_of_lt (by omega), ← Nat.add_assoc]; exact drop_more HD.out 1)
      have ha := add64_run u y c hc
      have r1 := hcell2
      have hiI : (i : Int) < (l2 : Int) := by omega
      have HU := Lib.hid (And.intro hu hy)
      clear hu hy hb2 hbk hnb hcell
      go_wp2_with fail
      have HGN := Lib.hid (fun m => (HGR.out.drewN m).set (at_ + i) (.int .u64 (addLo u y c : Nat)))
      have HSN := Lib.hid (fun m => show Row ((wr.drewN m).setCell ⟨g, at_ + i, none⟩ (.int .u64 (addLo u y c : Nat))) g (os1.set (at_ + i) (addLo u y c)) from (HROW.out.drewN m).set (by rw [HO.out]; omega) (addLo_lt _ _ _))
      obtain ⟨m, hm⟩ : ∃ m, at_ + i = m := ⟨_, rfl⟩
      obtain ⟨h0m, h9m, hsl, hto⟩ := sum_small hat hlt hl
      obtain ⟨hw1, hw2⟩ := wraps_small h0m h9m
      have HIL := Lib.hid hlt
      rw [hm] at hto
      rw [hm] at hcg hfg HSN HGN HO2 HD2 HSTEP
      clear r1 HSET HGR2 HROW HGR HD HV HO
      subst hm
      clear h9m hat hl
      go_region_with (fail)
      all_goals
        clear hw1 hw2 hto h0m hsl ha hcg hfg
        go_wp2_with fail
        exact ⟨⟨i + 1, _, _, HIL.out, hc1, rfl, by go_num, HO2, Lib.hid (HSN.out _), Lib.hid (HGN.out _), HD2, HSTEP⟩, by have := HIL.out; simp [intOf]; omega⟩
    · obtain rfl : i = l2 := by omega
      have hiI : ¬ ((i : Int) < (i : Int)) := by omega
      go_wp2_with fail
      clear hi
      obtain ⟨wo, hwo⟩ : ∃ wo : World, wo = wr := ⟨_, rfl⟩
      subst hwo
      have hxs : xs.take i = xs := List.take_of_length_le (by rw [← HL2.out]; exact Nat.le_refl _)
      rw [hxs] at HV
      clear hxs
      go_loopw [6, 8] (fun t6 t8 wr => ∃ (j c : Nat) (os1 : List Nat), j ≤ lo ∧ c ≤ 1 ∧ t6 = .int .u64 (c : Int) ∧ t8 = .int .i64 (j : Int) ∧ Hid (os1.length = lo) ∧ Hid (Row wr g os1) ∧ Hid (Grew w wr g) ∧ Hid (os1.drop j = os.drop j) ∧ Hid (val (os1.take j) + W64 ^ j * c = val (os.take j) + W64 ^ at_ * val xs)) (fun _ t8 _ => lo - (intOf t8).toNat)
      case atStart => exact ⟨at_ + i, c, os1, by omega, hc, rfl, by go_num, HO, HROW, HGR, HD, HV⟩
      case round =>
        clear HO HROW HGR HD HV hc
        obtain ⟨j, c, os1, hj, hc, rfl, rfl, HO, HROW, HGR, HD, HV⟩ := hrel
        rcases Nat.eq_zero_or_pos c with hc0 | hc0
        · subst hc0
          have HFIN := Lib.hid (show val os1 = val os + W64 ^ at_ * val xs by
            have h1 := val_split os1 j (by rw [HO.out]; exact hj)
            have h2 := val_split os j (by rw [← HLO.out]; exact hj)
            have h3 := HV.out
            rw [HD.out] at h1
            rw [Nat.mul_zero, Nat.add_zero] at h3
            omega)
          go_wp2_with fail
          go_end0
          exact ⟨_, os1, rfl, HROW.out, HO.out, HFIN.out, HGR.out⟩
        · obtain rfl : c = 1 := by omega
          have hjl : j < lo := by
            rcases Nat.lt_or_ge j lo with h | h
            · exact h
            · exfalso
              obtain rfl : j = lo := by omega
              have h1 := HV.out
              rw [List.take_of_length_le (l := os1) (by rw [HO.out]; exact Nat.le_refl _), List.take_of_length_le (l := os) (by rw [← HLO.out]; exact Nat.le_refl _)] at h1
              have := HF.out
              omega
          obtain ⟨u, hu⟩ : ∃ u, os1.getD j 0 = u := ⟨_, rfl⟩
          have huW : u < W64 := hu ▸ HROW.out.small.getD j
          have hcg := HROW.out.cell (k := j) (by rw [HO.out]; omega)
          rw [hu] at hcg
          have hfg := HROW.out.free j
          have HSTEP := Lib.hid (show val ((os1.set j (addLo u 0 1)).take (j + 1)) + W64 ^ (j + 1) * addHi u 0 1 = val (os.take (j + 1)) + W64 ^ at_ * val xs by
            have hV := HV.out
            have hu2 : os.getD j 0 = u := by rw [← hu]; exact (getD_of_drop HD.out).symm
            rw [val_take_set os1 _ _ (by rw [HO.out]; omega), val_take_step os, hu2, Nat.pow_succ]
            have h5 : W64 ^ j * (addLo u 0 1 + W64 * addHi u 0 1) = W64 ^ j * (u + 0 + 1) := by rw [add_split]
            rw [Nat.mul_add, Nat.mul_add, Nat.add_zero, Nat.mul_one, ← Nat.mul_assoc] at h5
            rw [Nat.mul_one] at hV
            omega)
          have hc1 := addHi_le huW W64_pos (Nat.le_refl 1)
          have HSET := Lib.hid (HROW.out.set (k := j) (x := addLo u 0 1) (by rw [HO.out]; omega) (addLo_lt _ _ _))
          have HGR2 := Lib.hid (HGR.out.set (j) (.int .u64 (addLo u 0 1 : Nat)))
          have HO2 := Lib.hid (show (os1.set j (addLo u 0 1)).length = lo by rw [List.length_set, HO.out])
          have HD2 := Lib.hid (show (os1.set j (addLo u 0 1)).drop (j + 1) = os.drop (j + 1) by
            rw [List.drop_set_of_lt (by omega)]; exact drop_more HD.out 1)
          have ha := add64_run u 0 1 (Nat.le_refl 1)
          rw [Int.natCast_zero, Int.natCast_one] at ha
          have hjI : (j : Int) < (lo : Int) := by omega
          have HU := Lib.hid hu
          clear hu
          go_wp2_with fail
          exact ⟨⟨j + 1, _, _, by omega, hc1, rfl, by go_num, HO2, HSET, HGR2, HD2, HSTEP⟩, by simp [intOf]; omega⟩
end Go.Proofs.YtonbhpadoplpkaaGreat
/- The package times: take, sum. -/
namespace Go.Proofs.YtonbhpadoplpkaaGreat
open Go.RowKit Go.Deep
theorem borrow_step {a1 a2 a3 P d b u b' y W : Nat} (h : a1 + a3 = a2 + P * b) (hs : d + y + b = u + W * b') : a1 + P * d + (a3 + P * y) = a2 + P * u + P * W * b' := by
  have h5 : P * (d + y + b) = P * (u + W * b') := by rw [hs]
  grind
set_option maxHeartbeats 4000000 in
set_option maxRecDepth 100000 in
theorem times_take (g lo co : Nat) (os : List Nat) (A2 : Option Addr) (l2 c2 : Nat) (xs : List Nat) (w : World) (hrow0 : Row w g os) (h2 : Lim w w.heap.size A2 xs) (hne : 0 < xs.length → ∀ ad, A2 = some ad → ad.block ≠ g) (elo : lo = os.length) (el2 : l2 = xs.length) (hat : l2 ≤ lo) (hfit : val xs ≤ val os) (hl : lo ≤ 1099511627776) :
    Calls Tryz.prog 156 #[.slice (some ⟨g, 0, none⟩) lo co, .slice A2 l2 c2] w fun e w' => ∃ v os', e = .returned v ∧ Row w' g os' ∧ os'.length = lo ∧ val os' + val xs = val os ∧ Grew w w' g := by
  have HF := Lib.hid hfit
  have HLO := Lib.hid elo
  have HL2 := Lib.hid el2
  have hloI : (lo : Int) ≤ 1099511627776 := by omega
  have hatI : (l2 : Int) ≤ (lo : Int) := by omega
  have HAT := Lib.hid hat
  clear hfit elo el2 hat hl
  go_enter Tryz.func156, Tryz.ntmps156
  go_wp2_with fail
  go_loopw [4, 9] (fun t4 t9 wr => ∃ (i c : Nat) (os1 : List Nat), i ≤ l2 ∧ c ≤ 1 ∧ t4 = .int .u64 (c : Int) ∧ t9 = .int .i64 (i : Int) ∧ Hid (os1.length = lo) ∧ Hid (Row wr g os1) ∧ Hid (Grew w wr g) ∧ Hid (os1.drop i = os.drop i) ∧ Hid (val (os1.take i) + val (xs.take i) = val (os.take i) + W64 ^ i * c)) (fun _ t9 _ => l2 - (intOf t9).toNat)
  case atStart => exact ⟨0, 0, os, by omega, by omega, rfl, rfl, Lib.hid HLO.out.symm, Lib.hid hrow0, Lib.hid (Grew.refl _ _), Lib.hid rfl, Lib.hid (by simp)⟩
  case round =>
    obtain ⟨i, c, os1, hi, hc, rfl, rfl, HO, HROW, HGR, HD, HV⟩ := hrel
    by_cases hlt : i < l2
    · have HLV := Lib.hid (h2.off HGR.out.1 hne)
      obtain ⟨ad, rfl, hb2, hcell⟩ := HLV.out.at_ (k := i) (by rw [← HL2.out]; exact hlt)
      obtain ⟨y, hy⟩ : ∃ y, xs.getD i 0 = y := ⟨_, rfl⟩
      obtain ⟨u, hu⟩ : ∃ u, os1.getD i 0 = u := ⟨_, rfl⟩
      have hyW : y < W64 := hy ▸ h2.small.getD i
      have huW : u < W64 := hu ▸ HROW.out.small.getD i
      rw [hy] at hcell
      have hcg := HROW.out.cell (k := i) (by rw [HO.out]; have := HAT.out; omega)
      rw [hu] at hcg
      have hfg := HROW.out.free i
      have HSTEP := Lib.hid (show val ((os1.set i (subLo u y c)).take (i + 1)) + val (xs.take (i + 1)) = val (os.take (i + 1)) + W64 ^ (i + 1) * subHi u y c by
        have hV := HV.out
        have hu2 : os.getD i 0 = u := by rw [← hu]; exact (getD_of_drop HD.out).symm
        rw [val_take_set os1 _ _ (by rw [HO.out]; have := HAT.out; omega), val_take_step os, val_take_step xs, hy, hu2, Nat.pow_succ]
        exact borrow_step hV (sub_split huW hyW hc))
      have hc1 := subHi_le u y c
      have HO2 := Lib.hid (show (os1.set i (subLo u y c)).length = lo by rw [List.length_set, HO.out])
      have HD2 := Lib.hid (show (os1.set i (subLo u y c)).drop (i + 1) = os.drop (i + 1) by
        rw [List.drop_set_of_lt (by omega)]; exact drop_more HD.out 1)
      have ha := sub64_run u y c hc
      have r1 := later_cell hcell
      have r2 := later_cell hcg
      have hiI : (i : Int) < (l2 : Int) := by omega
      have hiI2 : (i : Int) < (lo : Int) := by omega
      have HU := Lib.hid (And.intro hu hy)
      clear hu hy
      go_wp2_with fail
      have HGN := Lib.hid (fun m => (HGR.out.drewN m).set (i) (.int .u64 (subLo u y c : Nat)))
      have HSN := Lib.hid (fun m => show Row ((wr.drewN m).setCell ⟨g, i, none⟩ (.int .u64 (subLo u y c : Nat))) g (os1.set i (subLo u y c)) from (HROW.out.drewN m).set (by rw [HO.out]; omega) (subLo_lt _ _ _))
      go_region_with (fail)
      all_goals
        go_wp2_with fail
        exact ⟨⟨i + 1, _, _, by omega, hc1, rfl, by go_num, HO2, Lib.hid (HSN.out _), Lib.hid (HGN.out _), HD2, HSTEP⟩, by simp [intOf]; omega⟩
    · obtain rfl : i = l2 := by omega
      have hiI : ¬ ((i : Int) < (i : Int)) := by omega
      go_wp2_with fail
      clear hi
      obtain ⟨wo, hwo⟩ : ∃ wo : World, wo = wr := ⟨_, rfl⟩
      subst hwo
      have hxs : xs.take i = xs := List.take_of_length_le (by rw [← HL2.out]; exact Nat.le_refl _)
      rw [hxs] at HV
      clear hxs
      go_loopw [4, 6] (fun t6 t8 wr => ∃ (j c : Nat) (os1 : List Nat), j ≤ lo ∧ c ≤ 1 ∧ t6 = .int .u64 (c : Int) ∧ t8 = .int .i64 (j : Int) ∧ Hid (os1.length = lo) ∧ Hid (Row wr g os1) ∧ Hid (Grew w wr g) ∧ Hid (os1.drop j = os.drop j) ∧ Hid (val (os1.take j) + val xs = val (os.take j) + W64 ^ j * c)) (fun _ t8 _ => lo - (intOf t8).toNat)
      case atStart => exact ⟨i, c, os1, HAT.out, hc, rfl, rfl, HO, HROW, HGR, HD, HV⟩
      case round =>
        clear HO HROW HGR HD HV hc
        obtain ⟨j, c, os1, hj, hc, rfl, rfl, HO, HROW, HGR, HD, HV⟩ := hrel
        rcases Nat.eq_zero_or_pos c with hc0 | hc0
        · subst hc0
          have HFIN := Lib.hid (show val os1 + val xs = val os by
            have h1 := val_split os1 j (by rw [HO.out]; exact hj)
            have h2 := val_split os j (by rw [← HLO.out]; exact hj)
            have h3 := HV.out
            rw [HD.out] at h1
            rw [Nat.mul_zero, Nat.add_zero] at h3
            omega)
          go_wp2_with fail
          go_end0
          exact ⟨_, os1, rfl, HROW.out, HO.out, HFIN.out, HGR.out⟩
        · obtain rfl : c = 1 := by omega
          have hjl : j < lo := by
            rcases Nat.lt_or_ge j lo with h | h
            · exact h
            · exfalso
              obtain rfl : j = lo := by omega
              have h1 := HV.out
              rw [List.take_of_length_le (l := os1) (by rw [HO.out]; exact Nat.le_refl _), List.take_of_length_le (l := os) (by rw [← HLO.out]; exact Nat.le_refl _)] at h1
              have h3 := val_lt HROW.out.small
              rw [HO.out] at h3
              have := HF.out
              omega
          obtain ⟨u, hu⟩ : ∃ u, os1.getD j 0 = u := ⟨_, rfl⟩
          have huW : u < W64 := hu ▸ HROW.out.small.getD j
          have hcg := HROW.out.cell (k := j) (by rw [HO.out]; exact hjl)
          rw [hu] at hcg
          have hfg := HROW.out.free j
          have HSTEP := Lib.hid (show val ((os1.set j (subLo u 0 1)).take (j + 1)) + val xs = val (os.take (j + 1)) + W64 ^ (j + 1) * subHi u 0 1 by
            have hV := HV.out
            have hu2 : os.getD j 0 = u := by rw [← hu]; exact (getD_of_drop HD.out).symm
            rw [val_take_set os1 _ _ (by rw [HO.out]; exact hjl), val_take_step os, hu2, Nat.pow_succ]
            have h6 := borrow_step hV (sub_split huW W64_pos (Nat.le_refl 1))
            rwa [Nat.mul_zero, Nat.add_zero] at h6)
          have hc1 := subHi_le u 0 1
          have HSET := Lib.hid (HROW.out.set (k := j) (x := subLo u 0 1) (by rw [HO.out]; exact hjl) (subLo_lt _ _ _))
          have HGR2 := Lib.hid (HGR.out.set (j) (.int .u64 (subLo u 0 1 : Nat)))
          have HO2 := Lib.hid (show (os1.set j (subLo u 0 1)).length = lo by rw [List.length_set, HO.out])
          have HD2 := Lib.hid (show (os1.set j (subLo u 0 1)).drop (j + 1) = os.drop (j + 1) by
            rw [List.drop_set_of_lt (by omega)]; exact drop_more HD.out 1)
          have ha := sub64_run u 0 1 (Nat.le_refl 1)
          rw [Int.natCast_zero, Int.natCast_one] at ha
          have hjI : (j : Int) < (lo : Int) := by omega
          have HU := Lib.hid hu
          clear hu
          go_wp2_with fail
          exact ⟨⟨j + 1, _, _, by omega, hc1, rfl, by go_num, HO2, HSET, HGR2, HD2, HSTEP⟩, by simp [intOf]; omega⟩
theorem zeros_cells (n : Nat) : (madeCells #[.int .u64 0] n : Array Value) = (nums (List.replicate n 0)).toArray := by
  apply Array.ext'
  rw [toList_madeCells_one]
  simp [nums]
section
variable {ops : Array Oper} {rest : List Oper} {o : Oper} {a : Act} {Q : Exit → Act → World → Prop}
/-- copy(out, x): out is new, all noughts. -/
theorem copy_made {w0 W : World} {B0 B : Nat} (hgd : o.guard = none) (d s : Operand)
    (ho : o.op = .call { callee := .builtin .copy, args := #[d, s], argTypes := #[22, 22] })
    (g n c : Nat) (A : Option Addr) (l cs : Nat) (xs : List Nat) (hd : a.eval d = .slice (some ⟨g, 0, none⟩) n c) (hs : a.eval s = .slice A l cs)
    (hrow : W.heap[g]? = some (.cells (madeCells #[.int .u64 0] n) 85 (0, 0))) (hl : l = xs.length) (hle : l ≤ n) (hlim : Lim W B A xs) (hb : Below B0 w0 W) (hBg : B0 ≤ g)
    (h : ∀ w' u, Row w' g (xs ++ List.replicate (n - l) 0) → Fresh w' g (some ⟨g, 0, none⟩) n → Below B0 w0 w' → wpList Tryz.prog ops Q rest (a.put o.dst u) w') :
    wpList Tryz.prog ops Q (o :: rest) a W := by
  subst hl
  rw [zeros_cells] at hrow
  obtain ⟨i0, hi, hz0, hz1, hz2⟩ := info_parts info_u64
  refine wpList_copy_splice hgd d s 22 22 ho 85 Tryz.underlying22 (by rw [hi]; simp [hz1]) _ A n c xs.length cs hd hs g 0 (nums (List.replicate n 0)) 85 hrow (nums xs) (by rw [nums_length]; exact (Nat.min_eq_left hle).symm) (fun hp => ?_) (by rw [nums_length, nums_length]; simp; omega) (fun v hv => ?_) B0 w0 hb hBg fun w' hw hb' => ?_
  · rw [nums_length] at hp
    obtain ⟨ad, ha, _, hc⟩ := hlim.cells hp
    refine ⟨rfl, ad, ha, fun j v hj => ?_⟩
    have hjl : j < xs.length := by have := (List.getElem?_eq_some_iff.1 hj).1; simpa [nums] using this
    rw [hc j hjl, ← hj]
    simp [nums, hjl]
  · obtain ⟨y, _, rfl⟩ := List.mem_map.1 hv
    rfl
  · have hw := hw.out
    have e : splice (nums (List.replicate n 0)) 0 (nums xs) = nums (xs ++ List.replicate (n - xs.length) 0) := by
      simp [splice, nums, List.drop_replicate]
    rw [e] at hw
    refine h w' _ ⟨hlim.small.append (Small.zeros _), _, _, hw, by simp [nums], fun i hi => ?_⟩ (.inr ⟨g, _, rfl, Nat.le_refl _, hw, by simp [nums]; omega⟩) hb'
    rw [List.getElem?_toArray]
    simp only [nums, List.getElem?_map, List.getD_eq_getElem?_getD]
    rw [List.getElem?_eq_getElem hi]
    rfl
end
theorem sum_fits {xs ys : List Nat} (hx : Small xs) (hy : Small ys) {m : Nat} (h1 : xs.length ≤ m) (h2 : ys.length ≤ m) : val xs + val ys < W64 ^ (m + 1) := by
  have a := val_lt hx
  have b := val_lt hy
  have c : W64 ^ xs.length ≤ W64 ^ m := Nat.pow_le_pow_right W64_pos h1
  have d : W64 ^ ys.length ≤ W64 ^ m := Nat.pow_le_pow_right W64_pos h2
  have e : 2 * W64 ^ m ≤ W64 ^ (m + 1) := by
    rw [Nat.pow_succ, Nat.mul_comm 2]
    exact Nat.mul_le_mul_left _ (by rw [W64_eq]; omega)
  omega
theorem Lim.far {w : World} {B g : Nat} {A : Option Addr} {xs : List Nat} (h : Lim w B A xs) (hg : B ≤ g) (hn : 0 < xs.length) (ad : Addr) (e : A = some ad) : ad.block ≠ g := by
  obtain ⟨a, ha, hb, _⟩ := h.cells hn
  rw [ha] at e
  injection e with e
  subst e
  omega
set_option maxHeartbeats 1000000 in
set_option maxRecDepth 100000 in
theorem times_sum (A1 A2 : Option Addr) (l1 l2 c1 c2 : Nat) (xs ys : List Nat) (w : World) (h1 : Lim w w.heap.size A1 xs) (h2 : Lim w w.heap.size A2 ys) (e1 : l1 = xs.length) (e2 : l2 = ys.length) (hl1 : l1 ≤ 274877906944) (hl2 : l2 ≤ 274877906944) :
    Calls Tryz.prog 155 #[.slice A1 l1 c1, .slice A2 l2 c2] w fun e w' => ∃ A c, e = .returned (.slice A (limbs (val xs + val ys)).length c) ∧ (limbs (val xs + val ys)).length ≤ c ∧ Lim w' w'.heap.size A (limbs (val xs + val ys)) ∧ Fresh w' w.heap.size A c ∧ Below w.heap.size w w' := by
  obtain ⟨m, hm⟩ : ∃ m, max l1 l2 = m := ⟨_, rfl⟩
  have hmI : max (l1 : Int) (l2 : Int) = (m : Int) := by omega
  have hmk := make_limbs_succ m (by omega)
  have mI : (m : Int) ≤ 274877906944 := by omega
  have HM := Lib.hid (show l1 ≤ m ∧ l2 ≤ m ∧ m ≤ 274877906944 by omega)
  have H1 := Lib.hid h1
  have H2 := Lib.hid h2
  have E1 := Lib.hid e1
  have E2 := Lib.hid e2
  clear h1 h2 e1 e2 hl1 hl2 hm
  go_enter Tryz.func155, Tryz.ntmps155
  go_upto_region 2 with (fail)
  obtain ⟨W0, g, hW0, hg⟩ : ∃ W g, w.alloc (.cells (madeCells #[.int .u64 0] (m + 1)) 85) = W ∧ w.heap.size = g := ⟨_, _, rfl, rfl⟩
  have hb0 : Below w.heap.size w W0 := by rw [← hW0]; exact (Below.refl _ _).alloc (Nat.le_refl _) _
  have HROW := Lib.hid (show W0.heap[g]? = some (.cells (madeCells #[.int .u64 0] (m + 1)) 85 (0, 0)) by rw [← hW0, ← hg]; exact heap_alloc_new w _)
  have HG := Lib.hid (show w.heap.size ≤ g by omega)
  have HB := Lib.hid hb0
  rw [hW0, hg]
  clear hW0 hg hb0 hmk hmI
  go_wp2_with (refine copy_made (w0 := w) (B0 := w.heap.size) rfl (.tmp 13) (.tmp 14) rfl g (m + 1) (m + 1) A1 l1 c1 xs (by rfl) (by rfl) HROW.out E1.out (by have := HM.out; omega) (H1.out.below HB.out) HB.out HG.out fun w1 u1 hr hf hb => ?_)
  have HR := Lib.hid hr
  have HFR := Lib.hid hf
  replace HB := Lib.hid hb
  clear hr hf hb
  go_wp2_with fail
  have HLEN := Lib.hid (show m + 1 = (xs ++ List.replicate (m + 1 - l1) 0).length by rw [List.length_append, List.length_replicate, ← E1.out]; have := HM.out; omega)
  have HV := Lib.hid (show val (xs ++ List.replicate (m + 1 - l1) 0) = val xs by rw [val_append, val_zeros, Nat.mul_zero, Nat.add_zero])
  have C := times_put g (m + 1) (m + 1) 0 _ A2 l2 c2 ys w1 HR.out ((H2.out.below HB.out).more HB.out.size) (H2.out.far HG.out) HLEN.out E2.out (by have := HM.out; omega) (by
    rw [HV.out, Nat.pow_zero, Nat.one_mul]
    exact sum_fits H1.out.small H2.out.small (by rw [← E1.out]; exact HM.out.1) (by rw [← E2.out]; exact HM.out.2.1)) (by have := HM.out; omega)
  rw [Int.natCast_zero] at C
  refine C.mono ?_
  rintro e w2 ⟨v, os, rfl, hrow, hlen, hval, hgr⟩
  rw [HV.out, Nat.pow_zero, Nat.one_mul] at hval
  have HR2 := Lib.hid hrow
  have HL2 := Lib.hid hlen
  have HV2 := Lib.hid hval
  have HB2 := Lib.hid (below_grown HB.out HB.out.size hgr.1 HG.out)
  have HF2 := Lib.hid (show Fresh w2 g (some ⟨g, 0, none⟩) (m + 1) from hgr.2 _ _ HFR.out)
  clear C hrow hlen hval hgr
  go_wp2_with fail
  have T := times_trim (some ⟨g, 0, none⟩) (m + 1) os w2 HR2.out.lim' (by rw [HL2.out]; exact Nat.le_refl _) (by rw [HL2.out]; have := HM.out; omega)
  rw [HL2.out, HV2.out] at T
  refine T.mono ?_
  rintro e w3 ⟨rfl, rfl⟩
  clear T
  go_wp2_with fail
  go_ret
  have hl3 := limbs_val_le HR2.out.small
  have ht := HR2.out.lim'.trim
  rw [HV2.out] at hl3 ht
  exact ⟨_, _, rfl, by rw [← HL2.out]; exact hl3, ht, HF2.out.since HG.out, HB2.out⟩
end Go.Proofs.YtonbhpadoplpkaaGreat
/- The package times: halves, deep, of any length. -/
namespace Go.Proofs.YtonbhpadoplpkaaGreat
open Go.RowKit Go.Deep
/-- What a product by halves tells. -/
def ProdPost (w : World) (e : Ending) (w' : World) (n : Nat) : Prop := ∃ A c, e = .returned (.slice A (limbs n).length c) ∧ (limbs n).length ≤ c ∧ Lim w' w'.heap.size A (limbs n) ∧ Fresh w' w.heap.size A c ∧ Below w.heap.size w w'
def wayF (d g : Nat) : Value := .func (.func 120) #[] #[.pointer (some ⟨d, 0, none⟩), .pointer (some ⟨g, 0, none⟩)]
/-- The closure's cells. -/
structure WayC (w : World) (d g : Nat) : Prop where
  cd : w.cell? ⟨d, 0, none⟩ = some (.int .i64 24)
  cg : w.cell? ⟨g, 0, none⟩ = some (wayF d g)
theorem WayC.stay {w w' : World} {d g : Nat} (h : WayC w d g) (hb : Below w.heap.size w w') : WayC w' d g :=
  ⟨by rw [hb.cell (World.block_lt_of_cell? w _ h.cd)]; exact h.cd, by rw [hb.cell (World.block_lt_of_cell? w _ h.cg)]; exact h.cg⟩
/-- The way serves numbers of so many limbs. -/
def Way (m d g : Nat) : Prop := ∀ (A1 A2 : Option Addr) (l1 l2 c1 c2 : Nat) (xs ys : List Nat) (W : World), Lim W W.heap.size A1 xs → Lim W W.heap.size A2 ys → l1 = xs.length → l2 = ys.length → l1 ≤ c1 → l2 ≤ c2 → l1 ≤ m → l2 ≤ m → WayC W d g →
  Calls Tryz.prog 120 #[.slice A1 l1 c1, .slice A2 l2 c2, .pointer (some ⟨d, 0, none⟩), .pointer (some ⟨g, 0, none⟩)] W fun e w' => ProdPost W e w' (val xs * val ys)
theorem split_half {xs : List Nat} {n p : Nat} (hp : p = min n xs.length) : val xs = val (xs.take p) + W64 ^ n * val (xs.drop p) := by
  have h := val_split xs p (by omega)
  rcases Nat.lt_or_ge xs.length n with h1 | h1
  · have e : p = xs.length := by omega
    subst e
    rw [List.drop_length, val_nil, Nat.mul_zero] at *
    rw [List.take_length]; rfl
  · have e : p = n := by omega
    rw [e] at h ⊢
    exact h
theorem Fresh.ne {w : World} {base g c : Nat} {A : Option Addr} (h : Fresh w base A c) (hg : g < base) {ad : Addr} (e : A = some ad) : ad.block ≠ g := by
  rcases h with ⟨h1, _⟩ | ⟨k, cs, h1, h2, _, _⟩
  · rw [h1] at e; cases e
  · rw [h1] at e
    injection e with e
    subst e
    show k ≠ g
    omega
theorem Lim.below' {w w' : World} {B : Nat} {A : Option Addr} {xs : List Nat} (h : Lim w B A xs) (hb : Below B w w') : Lim w' B A xs := h.below hb
theorem kar_nums {a b c f n : Nat} (_h : b < W64 ^ n ∧ f < W64 ^ n ∧ a < W64 ^ n ∧ c < W64 ^ n) : a * c ≤ (a + b) * (c + f) ∧ b * f + a * c ≤ (a + b) * (c + f) := by
  have e : (a + b) * (c + f) = a * c + a * f + b * c + b * f := by grind
  rw [e]
  omega
theorem kar_prod {a b c f n M : Nat} (h : b < W64 ^ n ∧ f < W64 ^ n ∧ a < W64 ^ n ∧ c < W64 ^ n) (hM : M + b * f + a * c = (a + b) * (c + f)) :
    a * c + W64 ^ n * M + W64 ^ (2 * n) * (b * f) = (a + W64 ^ n * b) * (c + W64 ^ n * f) ∧ a * c + W64 ^ n * M + W64 ^ (2 * n) * (b * f) < W64 ^ (4 * n + 4) := by
  have e : M = a * f + b * c := by
    have e2 : (a + b) * (c + f) = a * c + a * f + b * c + b * f := by grind
    omega
  have e3 : a * c + W64 ^ n * M + W64 ^ (2 * n) * (b * f) = (a + W64 ^ n * b) * (c + W64 ^ n * f) := by
    rw [e, show 2 * n = n + n by omega, Nat.pow_add]
    generalize W64 ^ n = P
    grind
  refine ⟨e3, ?_⟩
  rw [e3]
  have k1 : a + W64 ^ n * b < W64 ^ n * W64 ^ n := by
    have := Nat.mul_le_mul_left (W64 ^ n) (show b + 1 ≤ W64 ^ n from h.1)
    rw [Nat.mul_add, Nat.mul_one] at this
    omega
  have k2 : c + W64 ^ n * f < W64 ^ n * W64 ^ n := by
    have := Nat.mul_le_mul_left (W64 ^ n) (show f + 1 ≤ W64 ^ n from h.2.1)
    rw [Nat.mul_add, Nat.mul_one] at this
    omega
  have k3 := Nat.mul_lt_mul_of_lt_of_lt k1 k2
  refine Nat.lt_of_lt_of_le k3 ?_
  rw [← Nat.pow_add, ← Nat.pow_add]
  exact Nat.pow_le_pow_right W64_pos (by omega)
/-- How long the products are. -/
theorem kar_sizes {a b c f n : Nat} (h : b < W64 ^ n ∧ f < W64 ^ n ∧ a < W64 ^ n ∧ c < W64 ^ n) : lc (a * c) ≤ 2 * n ∧ lc (b * f) ≤ 2 * n ∧ lc (a + b) ≤ n + 1 ∧ lc (c + f) ≤ n + 1 ∧ lc ((a + b) * (c + f)) ≤ 2 * n + 2 := by
  have h1 := lc_le.2 h.2.2.1
  have h2 := lc_le.2 h.2.2.2
  have h3 := lc_le.2 h.1
  have h4 := lc_le.2 h.2.1
  have m1 := lc_mul a c
  have m2 := lc_mul b f
  have s1 := lc_add a b
  have s2 := lc_add c f
  have m3 := lc_mul (a + b) (c + f)
  omega
set_option maxHeartbeats 4000000 in
set_option maxRecDepth 100000 in
theorem times_halves (m d g : Nat) (IH : Way m d g) (A1 A2 : Option Addr) (l1 l2 c1 c2 : Nat) (xs ys : List Nat) (w : World) (h1 : Lim w w.heap.size A1 xs) (h2 : Lim w w.heap.size A2 ys) (e1 : l1 = xs.length) (e2 : l2 = ys.length) (hc1 : l1 ≤ c1) (hc2 : l2 ≤ c2) (p1 : 0 < l1) (p2 : 0 < l2) (hm : (max l1 l2 + 1) / 2 + 1 ≤ m) (hl1 : l1 ≤ 17179869184) (hl2 : l2 ≤ 17179869184) (hw : WayC w d g) :
    Calls Tryz.prog 122 #[.slice A1 l1 c1, .slice A2 l2 c2, wayF d g] w fun e w' => ProdPost w e w' (val xs * val ys) := by
  obtain ⟨m0, hm0⟩ : ∃ m0, max l1 l2 = m0 := ⟨_, rfl⟩
  obtain ⟨n, hn⟩ : ∃ n, (m0 + 1) / 2 = n := ⟨_, rfl⟩
  have hmI : max (l1 : Int) (l2 : Int) = (m0 : Int) := by omega
  have hnI : ((m0 : Int) + 1) / 2 = (n : Int) := by omega
  obtain ⟨p, hp⟩ : ∃ p, min n l1 = p := ⟨_, rfl⟩
  obtain ⟨q, hq⟩ : ∃ q, min n l2 = q := ⟨_, rfl⟩
  have hpI : min (n : Int) (l1 : Int) = (p : Int) := by omega
  have hqI : min (n : Int) (l2 : Int) = (q : Int) := by omega
  have m0I : (m0 : Int) ≤ 17179869184 := by omega
  have nI : (n : Int) ≤ 17179869184 := by omega
  have HN := Lib.hid (show n + 1 ≤ m ∧ l1 ≤ 2 * n ∧ l2 ≤ 2 * n ∧ p ≤ n ∧ q ≤ n ∧ l1 - p ≤ n ∧ l2 - q ≤ n ∧ p ≤ l1 ∧ q ≤ l2 ∧ n ≤ 17179869184 by rw [hm0, hn] at hm; omega)
  have HX := Lib.hid (split_half (xs := xs) (n := n) (p := p) (by rw [← hp, e1]))
  have HY := Lib.hid (split_half (xs := ys) (n := n) (p := q) (by rw [← hq, e2]))
  obtain ⟨ad1, rfl, _, _⟩ := h1.at_ (k := 0) (by omega)
  obtain ⟨ad2, rfl, _, _⟩ := h2.at_ (k := 0) (by omega)
  have H1 := Lib.hid h1
  have H2 := Lib.hid h2
  have E1 := Lib.hid e1
  have E2 := Lib.hid e2
  have HC := Lib.hid (And.intro hc1 hc2)
  have HW := Lib.hid hw
  have HIH := Lib.hid IH
  have hpN : min n l1 = p := hp
  have hqN : min n l2 = q := hq
  have pI : (p : Int) ≤ (c1 : Int) := by omega
  have qI : (q : Int) ≤ (c2 : Int) := by omega
  have pJ : (p : Int) ≤ (l1 : Int) := by omega
  have qJ : (q : Int) ≤ (l2 : Int) := by omega
  clear h1 h2 e1 e2 hc1 hc2 p1 p2 hm hl1 hl2 hw hm0 hn hp hq IH
  unfold wayF
  go_enter Tryz.func122, Tryz.ntmps122
  go_upto_region 2 with (fail)
  rw [hnI]
  clear hmI hnI
  go_cut [8, 9] (fun t8 t9 wx => ∃ (AX : Option Addr) (cX : Nat), t8 = .slice (some ad1) (limbs (val (xs.take p))).length c1 ∧ t9 = .slice AX (l1 - p) cX ∧ Hid (l1 - p ≤ cX) ∧ Hid (Lim wx wx.heap.size AX (xs.drop p)) ∧ Hid (Since w wx))
  case first =>
    by_cases hcp : c1 = p
    · have hle : l1 = c1 := by have := HN.out; have := HC.out; omega
      subst hcp
      have HLL := Lib.hid (show (xs).drop c1 = [] by rw [List.drop_of_length_le (by rw [← E1.out]; omega)])
      have HTR := Lib.hid (fun W (h : Lim W (w).heap.size (some ad1) ((xs).take c1)) => times_trim (some ad1) c1 ((xs).take c1) W h (by rw [List.length_take]; omega) (by rw [List.length_take]; have := HN.out; have := E1.out; omega))
      have hlt : ((xs).take c1).length = c1 := by rw [List.length_take, ← E1.out]; omega
      rw [hlt] at HTR
      clear hlt hle
      refine wp_region_stages (fun w' => ∃ k, w' = (w).drewN k) [(false, 0), (false, 1), (false, 2), (false, 3), (false, 4), (false, 5), (false, 7), (false, 8), (false, 9), (false, 10), (false, 11), (false, 12), (true, 6), (false, 13), (false, 14)] 15 [.reads [_, _, _, _, _, _, _, _, _, _, _, _], .loud _, .reads [_, _]] [] (by kernel_rfl) (by kernel_rfl) rfl rfl ?_ ?_
      · exact ⟨1, rfl⟩
      refine wpStages_reads ?_
      repeat (go_big_quiet_step (fail))
      refine wpQuiet_nil ?_
      refine wpStages_loud rfl ?_
      intro K hK
      go_big_op
      refine (HTR.out _ ((H1.out.take c1).drewN 1)).mono ?_
      rintro e w1 ⟨rfl, rfl⟩
      refine hK _ _ ⟨1, rfl⟩ ?_
      clear hK K
      refine wpStages_reads ?_
      repeat (go_big_quiet_step (fail))
      refine wpQuiet_nil ?_
      refine wpStages_nil ?_
      go_wp2_with fail
      go_meet
      exact ⟨some ad1, 0, rfl, rfl, Lib.hid (by have := HN.out; have := HC.out; omega), Lib.hid (by rw [HLL.out]; exact Lim.nil _ _ _), Lib.hid (below_drewN (Below.refl _ _) 1)⟩
    · have HCP := Lib.hid hcp
      have HTR := Lib.hid (fun W (h : Lim W (w).heap.size (some ad1) ((xs).take p)) => times_trim (some ad1) c1 ((xs).take p) W h (by rw [List.length_take]; have := HN.out; have := HC.out; omega) (by rw [List.length_take]; have := HN.out; have := E1.out; omega))
      have hlt : ((xs).take p).length = p := by rw [List.length_take, ← E1.out]; have := HN.out; omega
      rw [hlt] at HTR
      clear hlt
      refine wp_region_stages (fun w' => ∃ k, w' = (w).drewN k) [(false, 0), (false, 1), (false, 2), (false, 3), (false, 4), (false, 5), (false, 7), (false, 8), (false, 9), (false, 10), (false, 11), (false, 12), (true, 6), (false, 13), (false, 14)] 15 [.reads [_, _, _, _, _, _, _, _, _, _, _, _], .loud _, .reads [_, _]] [] (by kernel_rfl) (by kernel_rfl) rfl rfl ?_ ?_
      · exact ⟨1, rfl⟩
      refine wpStages_reads ?_
      repeat (go_big_quiet_step (fail))
      refine wpQuiet_nil ?_
      refine wpStages_loud rfl ?_
      intro K hK
      go_big_op
      refine (HTR.out _ ((H1.out.take p).drewN 1)).mono ?_
      rintro e w1 ⟨rfl, rfl⟩
      refine hK _ _ ⟨1, rfl⟩ ?_
      clear hK K
      refine wpStages_reads ?_
      repeat (go_big_quiet_step (fail))
      refine wpQuiet_nil ?_
      refine wpStages_nil ?_
      go_wp2_with fail
      go_meet
      have hcut := H1.out.cut (k := p) (cap := c1) (by rw [← E1.out]; have := HC.out; omega)
      rw [if_neg HCP.out] at hcut
      exact ⟨some ((ad1).add p), c1 - p, rfl, rfl, Lib.hid (by have := HN.out; have := HC.out; omega), Lib.hid (hcut.drewN 1), Lib.hid (below_drewN (Below.refl _ _) 1)⟩
  case rest =>
    clear hpI hpN pI pJ
    obtain ⟨AX, cX, rfl, rfl, HCX, HX1, HB⟩ := hcut
    have HX0 := Lib.hid (H1.out.stay HB.out)
    replace H2 := Lib.hid (H2.out.stay HB.out)
    replace HW := Lib.hid (HW.out.stay HB.out)
    go_upto_region 3 with (fail)
    go_cut [10, 11] (fun t8 t9 wx => ∃ (AY : Option Addr) (cY : Nat), t8 = .slice (some ad2) (limbs (val (ys.take q))).length c2 ∧ t9 = .slice AY (l2 - q) cY ∧ Hid (l2 - q ≤ cY) ∧ Hid (Lim wx wx.heap.size AY (ys.drop q)) ∧ Hid (Since wc wx))
    case first =>
      by_cases hcp : c2 = q
      · have hle : l2 = c2 := by have := HN.out; have := HC.out; omega
        subst hcp
        have HLL := Lib.hid (show (ys).drop c2 = [] by rw [List.drop_of_length_le (by rw [← E2.out]; omega)])
        have HTR := Lib.hid (fun W (h : Lim W (wc).heap.size (some ad2) ((ys).take c2)) => times_trim (some ad2) c2 ((ys).take c2) W h (by rw [List.length_take]; omega) (by rw [List.length_take]; have := HN.out; have := E2.out; omega))
        have hlt : ((ys).take c2).length = c2 := by rw [List.length_take, ← E2.out]; omega
        rw [hlt] at HTR
        clear hlt hle
        refine wp_region_stages (fun w' => ∃ k, w' = (wc).drewN k) [(false, 0), (false, 1), (false, 2), (false, 3), (false, 4), (false, 5), (false, 7), (false, 8), (false, 9), (false, 10), (false, 11), (false, 12), (true, 6), (false, 13), (false, 14)] 15 [.reads [_, _, _, _, _, _, _, _, _, _, _, _], .loud _, .reads [_, _]] [] (by kernel_rfl) (by kernel_rfl) rfl rfl ?_ ?_
        · exact ⟨1, rfl⟩
        refine wpStages_reads ?_
        repeat (go_big_quiet_step (fail))
        refine wpQuiet_nil ?_
        refine wpStages_loud rfl ?_
        intro K hK
        go_big_op
        refine (HTR.out _ ((H2.out.take c2).drewN 1)).mono ?_
        rintro e w1 ⟨rfl, rfl⟩
        refine hK _ _ ⟨1, rfl⟩ ?_
        clear hK K
        refine wpStages_reads ?_
        repeat (go_big_quiet_step (fail))
        refine wpQuiet_nil ?_
        refine wpStages_nil ?_
        go_wp2_with fail
        go_meet
        exact ⟨some ad2, 0, rfl, rfl, Lib.hid (by have := HN.out; have := HC.out; omega), Lib.hid (by rw [HLL.out]; exact Lim.nil _ _ _), Lib.hid (below_drewN (Below.refl _ _) 1)⟩
      · have HCP := Lib.hid hcp
        have HTR := Lib.hid (fun W (h : Lim W (wc).heap.size (some ad2) ((ys).take q)) => times_trim (some ad2) c2 ((ys).take q) W h (by rw [List.length_take]; have := HN.out; have := HC.out; omega) (by rw [List.length_take]; have := HN.out; have := E2.out; omega))
        have hlt : ((ys).take q).length = q := by rw [List.length_take, ← E2.out]; have := HN.out; omega
        rw [hlt] at HTR
        clear hlt
        refine wp_region_stages (fun w' => ∃ k, w' = (wc).drewN k) [(false, 0), (false, 1), (false, 2), (false, 3), (false, 4), (false, 5), (false, 7), (false, 8), (false, 9), (false, 10), (false, 11), (false, 12), (true, 6), (false, 13), (false, 14)] 15 [.reads [_, _, _, _, _, _, _, _, _, _, _, _], .loud _, .reads [_, _]] [] (by kernel_rfl) (by kernel_rfl) rfl rfl ?_ ?_
        · exact ⟨1, rfl⟩
        refine wpStages_reads ?_
        repeat (go_big_quiet_step (fail))
        refine wpQuiet_nil ?_
        refine wpStages_loud rfl ?_
        intro K hK
        go_big_op
        refine (HTR.out _ ((H2.out.take q).drewN 1)).mono ?_
        rintro e w1 ⟨rfl, rfl⟩
        refine hK _ _ ⟨1, rfl⟩ ?_
        clear hK K
        refine wpStages_reads ?_
        repeat (go_big_quiet_step (fail))
        refine wpQuiet_nil ?_
        refine wpStages_nil ?_
        go_wp2_with fail
        go_meet
        have hcut := H2.out.cut (k := q) (cap := c2) (by rw [← E2.out]; have := HC.out; omega)
        rw [if_neg HCP.out] at hcut
        exact ⟨some ((ad2).add q), c2 - q, rfl, rfl, Lib.hid (by have := HN.out; have := HC.out; omega), Lib.hid (hcut.drewN 1), Lib.hid (below_drewN (Below.refl _ _) 1)⟩
    case rest =>
      clear hqI hqN qI qJ
      obtain ⟨AY, cY, rfl, rfl, HCY, HY1, HB2⟩ := hcut
      have HY0 := Lib.hid (H2.out.stay HB2.out)
      replace HX0 := Lib.hid (HX0.out.stay HB2.out)
      replace HX1 := Lib.hid (HX1.out.stay HB2.out)
      replace HW := Lib.hid (HW.out.stay HB2.out)
      replace HB := Lib.hid (HB.out.stay HB2.out)
      clear HB2 H1 H2
      have HXT := Lib.hid (show Lim wc wc.heap.size (some ad1) (limbs (val (xs.take p))) from (HX0.out.take p).trim)
      have HYT := Lib.hid (show Lim wc wc.heap.size (some ad2) (limbs (val (ys.take q))) from (HY0.out.take q).trim)
      have HSX := Lib.hid (show (xs.drop p).length = l1 - p ∧ (limbs (val (xs.take p))).length ≤ n ∧ (limbs (val (xs.take p))).length ≤ c1 by
        have h1 := limbs_val_le (HX0.out.small.take p)
        rw [List.length_take] at h1
        have h2 := HN.out
        have h3 := HC.out
        rw [List.length_drop, E1.out]
        refine ⟨rfl, by omega, by have := E1.out; omega⟩)
      have HSY := Lib.hid (show (ys.drop q).length = l2 - q ∧ (limbs (val (ys.take q))).length ≤ n ∧ (limbs (val (ys.take q))).length ≤ c2 by
        have h1 := limbs_val_le (HY0.out.small.take q)
        rw [List.length_take] at h1
        have h2 := HN.out
        have h3 := HC.out
        rw [List.length_drop, E2.out]
        refine ⟨rfl, by omega, by have := E2.out; omega⟩)
      obtain ⟨a, ha⟩ : ∃ a, val (xs.take p) = a := ⟨_, rfl⟩
      obtain ⟨b, hb⟩ : ∃ b, val (xs.drop p) = b := ⟨_, rfl⟩
      obtain ⟨c, hc⟩ : ∃ c, val (ys.take q) = c := ⟨_, rfl⟩
      obtain ⟨f, hf⟩ : ∃ f, val (ys.drop q) = f := ⟨_, rfl⟩
      rw [ha] at HXT HSX HX ⊢
      rw [hb] at HX
      rw [hc] at HYT HSY HY ⊢
      rw [hf] at HY
      have HBD := Lib.hid (show b < W64 ^ n ∧ f < W64 ^ n ∧ a < W64 ^ n ∧ c < W64 ^ n by
        have h1 := HN.out
        refine ⟨?_, ?_, lc_le.1 HSX.out.2.1, lc_le.1 HSY.out.2.1⟩
        · rw [← hb]; exact Nat.lt_of_lt_of_le (val_lt HX1.out.small) (Nat.pow_le_pow_right W64_pos (by rw [HSX.out.1]; omega))
        · rw [← hf]; exact Nat.lt_of_lt_of_le (val_lt HY1.out.small) (Nat.pow_le_pow_right W64_pos (by rw [HSY.out.1]; omega)))
      have HBV := Lib.hid (And.intro hb hf)
      clear ha hb hc hf HX0 HY0
      go_wp2_with fail
      have C := HIH.out (some ad1) (some ad2) _ _ c1 c2 (limbs a) (limbs c) wc HXT.out HYT.out rfl rfl HSX.out.2.2 HSY.out.2.2 (by have := HSX.out.2.1; have := HN.out; omega) (by have := HSY.out.2.1; have := HN.out; omega) HW.out
      rw [val_limbs, val_limbs] at C
      refine C.mono ?_
      rintro e w4 ⟨Al, cl, rfl, hcl, hll, -, hb⟩
      have HL := Lib.hid hll
      have HCL := Lib.hid hcl
      replace HXT := Lib.hid (HXT.out.stay hb)
      replace HYT := Lib.hid (HYT.out.stay hb)
      replace HX1 := Lib.hid (HX1.out.stay hb)
      replace HY1 := Lib.hid (HY1.out.stay hb)
      replace HW := Lib.hid (HW.out.stay hb)
      replace HB := Lib.hid (HB.out.stay hb)
      clear C hcl hll hb
      go_wp2_with fail
      have C := HIH.out AX AY (l1 - p) (l2 - q) cX cY (xs.drop p) (ys.drop q) w4 HX1.out HY1.out HSX.out.1.symm HSY.out.1.symm HCX.out HCY.out (by have := HN.out; omega) (by have := HN.out; omega) HW.out
      rw [HBV.out.1, HBV.out.2] at C
      refine C.mono ?_
      rintro e w5 ⟨Ah, ch, rfl, hch, hlh, -, hb⟩
      have HH := Lib.hid hlh
      have HCH := Lib.hid hch
      replace HXT := Lib.hid (HXT.out.stay hb)
      replace HYT := Lib.hid (HYT.out.stay hb)
      replace HX1 := Lib.hid (HX1.out.stay hb)
      replace HY1 := Lib.hid (HY1.out.stay hb)
      replace HW := Lib.hid (HW.out.stay hb)
      replace HB := Lib.hid (HB.out.stay hb)
      replace HL := Lib.hid (HL.out.stay hb)
      clear C hch hlh hb
      have HKL := Lib.hid (kar_sizes HBD.out)
      have hmk := make_limbs (2 * n + 3) (by have := HN.out; omega)
      rw [Int.natCast_add, Int.natCast_mul, show ((2 : Nat) : Int) = 2 from rfl, show ((3 : Nat) : Int) = 3 from rfl] at hmk
      go_upto_region 6 with (fail)
      obtain ⟨W5, gm, hW5, hgm⟩ : ∃ W g, w5.alloc (.cells (madeCells #[.int .u64 0] (2 * n + 3)) 85) = W ∧ w5.heap.size = g := ⟨_, _, rfl, rfl⟩
      have hb5 : Below w5.heap.size w5 W5 := by rw [← hW5]; exact (Below.refl _ _).alloc (Nat.le_refl _) _
      have HRM := Lib.hid (show Row W5 gm (List.replicate (2 * n + 3) 0) by rw [← hW5, ← hgm]; exact Row.made _ _)
      have HFM := Lib.hid (show Fresh W5 gm (some ⟨gm, 0, none⟩) (2 * n + 3) by rw [← hW5, ← hgm]; exact Fresh.made w5 (2 * n + 3))
      have HGM := Lib.hid (show w5.heap.size = gm ∧ w.heap.size ≤ gm from ⟨hgm, by rw [← hgm]; exact HB.out.size⟩)
      have HLW := Lib.hid HL.out
      have HHW := Lib.hid HH.out
      rw [hW5, hgm]
      replace HXT := Lib.hid (HXT.out.stay hb5)
      replace HYT := Lib.hid (HYT.out.stay hb5)
      replace HX1 := Lib.hid (HX1.out.stay hb5)
      replace HY1 := Lib.hid (HY1.out.stay hb5)
      replace HW := Lib.hid (HW.out.stay hb5)
      replace HB := Lib.hid (HB.out.stay hb5)
      have HB5 := Lib.hid (show Below gm w5 W5 by rw [← hgm]; exact hb5)
      clear hW5 hgm hb5 hmk HL HH
      go_wp2_with fail
      have C := times_sum (some ad1) AX _ (l1 - p) c1 cX (limbs a) (xs.drop p) W5 HXT.out HX1.out rfl HSX.out.1.symm (by have := HSX.out.2.1; have := HN.out; omega) (by have := HN.out; omega)
      rw [val_limbs, HBV.out.1] at C
      refine C.mono ?_
      rintro e w6 ⟨As, cs, rfl, hcs, hls, -, hb⟩
      have HS := Lib.hid hls
      have HCS := Lib.hid hcs
      replace HB5 := Lib.hid (HB5.out.trans (hb.mono (Nat.le_of_lt HRM.out.lt)))
      replace HFM := Lib.hid (HFM.out.below hb)
      replace HYT := Lib.hid (HYT.out.stay hb)
      replace HY1 := Lib.hid (HY1.out.stay hb)
      replace HW := Lib.hid (HW.out.stay hb)
      replace HB := Lib.hid (HB.out.stay hb)
      replace HRM := Lib.hid (HRM.out.stay hb)
      clear C hcs hls hb
      go_wp2_with fail
      have C := times_sum (some ad2) AY _ (l2 - q) c2 cY (limbs c) (ys.drop q) w6 HYT.out HY1.out rfl HSY.out.1.symm (by have := HSY.out.2.1; have := HN.out; omega) (by have := HN.out; omega)
      rw [val_limbs, HBV.out.2] at C
      refine C.mono ?_
      rintro e w7 ⟨At, ct, rfl, hct, hlt, -, hb⟩
      have HT := Lib.hid hlt
      have HCT := Lib.hid hct
      replace HB5 := Lib.hid (HB5.out.trans (hb.mono (Nat.le_of_lt HRM.out.lt)))
      replace HFM := Lib.hid (HFM.out.below hb)
      replace HS := Lib.hid (HS.out.stay hb)
      replace HW := Lib.hid (HW.out.stay hb)
      replace HB := Lib.hid (HB.out.stay hb)
      replace HRM := Lib.hid (HRM.out.stay hb)
      clear C hct hlt hb
      go_wp2_with fail
      have C := HIH.out As At _ _ cs ct (limbs (a + b)) (limbs (c + f)) w7 HS.out HT.out rfl rfl HCS.out HCT.out (by have h1 := HKL.out.2.2.1; have := HN.out; unfold lc at h1; omega) (by have h1 := HKL.out.2.2.2.1; have := HN.out; unfold lc at h1; omega) HW.out
      rw [val_limbs, val_limbs] at C
      refine C.mono ?_
      rintro e w8 ⟨Ap, cp, rfl, hcp, hlp, hfp, hb⟩
      have HP := Lib.hid hlp
      have HNP := Lib.hid (fun (_ : 0 < (limbs ((a + b) * (c + f))).length) ad e => hfp.ne HRM.out.lt (ad := ad) e)
      replace HB5 := Lib.hid (HB5.out.trans (hb.mono (Nat.le_of_lt HRM.out.lt)))
      replace HFM := Lib.hid (HFM.out.below hb)
      replace HB := Lib.hid (HB.out.stay hb)
      replace HRM := Lib.hid (HRM.out.stay hb)
      clear C hcp hlp hfp hb HW HS HT
      obtain ⟨PM, hPM⟩ : ∃ x, (a + b) * (c + f) = x := ⟨_, rfl⟩
      have HPM := Lib.hid hPM
      rw [hPM] at HP HNP HKL ⊢
      clear hPM
      go_wp2_with fail
      have C := times_put gm (2 * n + 3) (2 * n + 3) 0 (List.replicate (2 * n + 3) 0) Ap _ cp (limbs PM) w8 HRM.out HP.out HNP.out (by rw [List.length_replicate]) rfl (by have h1 := HKL.out.2.2.2.2; unfold lc at h1; omega) (by rw [val_zeros, Nat.pow_zero, Nat.one_mul, Nat.zero_add, val_limbs]; exact lc_le.1 (by have := HKL.out.2.2.2.2; omega)) (by have := HN.out; omega)
      rw [Int.natCast_zero, val_zeros, Nat.pow_zero, Nat.one_mul, Nat.zero_add, val_limbs] at C
      refine C.mono ?_
      rintro e w9 ⟨v9, os9, rfl, hr, hl9, hv9, hgr⟩
      have HLM := Lib.hid (And.intro hl9 hv9)
      replace HB5 := Lib.hid (below_grown HB5.out (Nat.le_of_lt HRM.out.lt) hgr.1 (Nat.le_refl _))
      replace HB := Lib.hid (show Since w w9 from below_grown HB.out HB.out.size hgr.1 HGM.out.2)
      replace HFM := Lib.hid (hgr.2 _ _ HFM.out)
      replace HRM := Lib.hid hr
      clear C hr hl9 hv9 hgr HP HNP
      go_wp2_with fail
      have HNUM := Lib.hid (kar_nums HBD.out)
      have C := times_take gm (2 * n + 3) (2 * n + 3) os9 Al _ cl (limbs (a * c)) w9 HRM.out ((HLW.out.below' (by rw [HGM.out.1]; exact HB5.out)).more (by have := HRM.out.lt; have := HGM.out.1; omega)) (HLW.out.far (by rw [HGM.out.1]; exact Nat.le_refl _)) HLM.out.1.symm rfl (by have h1 := HKL.out.1; unfold lc at h1; omega) (by rw [val_limbs, HLM.out.2, ← HPM.out]; exact HNUM.out.1) (by have := HN.out; omega)
      rw [val_limbs, HLM.out.2] at C
      refine C.mono ?_
      rintro e w10 ⟨v10, os10, rfl, hr, hl10, hv10, hgr⟩
      have HV10 := Lib.hid hv10
      have HL10 := Lib.hid hl10
      replace HB5 := Lib.hid (below_grown HB5.out (Nat.le_of_lt HRM.out.lt) hgr.1 (Nat.le_refl _))
      replace HB := Lib.hid (show Since w w10 from below_grown HB.out HB.out.size hgr.1 HGM.out.2)
      replace HFM := Lib.hid (hgr.2 _ _ HFM.out)
      replace HRM := Lib.hid hr
      clear C hr hl10 hv10 hgr HLM
      go_wp2_with fail
      have C := times_take gm (2 * n + 3) (2 * n + 3) os10 Ah _ ch (limbs (b * f)) w10 HRM.out ((HHW.out.below' (by rw [HGM.out.1]; exact HB5.out)).more (by have := HRM.out.lt; have := HGM.out.1; omega)) (HHW.out.far (by rw [HGM.out.1]; exact Nat.le_refl _)) HL10.out.symm rfl (by have h1 := HKL.out.2.1; unfold lc at h1; omega) (by rw [val_limbs]; have h1 := HNUM.out.2; have h2 := HV10.out; have h3 := HPM.out; omega) (by have := HN.out; omega)
      rw [val_limbs] at C
      refine C.mono ?_
      rintro e w11 ⟨v11, os11, rfl, hr, hl11, hv11, hgr⟩
      have HV11 := Lib.hid (show val os11 + b * f + a * c = (a + b) * (c + f) by rw [hv11, HV10.out, HPM.out])
      have HL11 := Lib.hid hl11
      replace HB5 := Lib.hid (below_grown HB5.out (Nat.le_of_lt HRM.out.lt) hgr.1 (Nat.le_refl _))
      replace HB := Lib.hid (show Since w w11 from below_grown HB.out HB.out.size hgr.1 HGM.out.2)
      replace HFM := Lib.hid (hgr.2 _ _ HFM.out)
      replace HRM := Lib.hid hr
      clear C hr hl11 hv11 hgr HV10 HL10
      obtain ⟨M, hM⟩ : ∃ M, val os11 = M := ⟨_, rfl⟩
      have HMV := Lib.hid hM
      have HPROD := Lib.hid (kar_prod (n := n) (M := M) HBD.out (by rw [← hM]; exact HV11.out))
      have HML := Lib.hid (show lc M ≤ 2 * n + 3 by rw [← hM]; exact Nat.le_trans (limbs_val_le HRM.out.small) (by rw [HL11.out]; exact Nat.le_refl _))
      clear hM
      have hmk := make_limbs (4 * n + 4) (by have := HN.out; omega)
      rw [Int.natCast_add, Int.natCast_mul, show ((4 : Nat) : Int) = 4 from rfl] at hmk
      go_upto_region 10 with (fail)
      obtain ⟨W11, go, hW, hgo⟩ : ∃ W g, w11.alloc (.cells (madeCells #[.int .u64 0] (4 * n + 4)) 85) = W ∧ w11.heap.size = g := ⟨_, _, rfl, rfl⟩
      have hb11 : Below w11.heap.size w11 W11 := by rw [← hW]; exact (Below.refl _ _).alloc (Nat.le_refl _) _
      have HRO := Lib.hid (show Row W11 go (List.replicate (4 * n + 4) 0) by rw [← hW, ← hgo]; exact Row.made _ _)
      have HFO := Lib.hid (show Fresh W11 go (some ⟨go, 0, none⟩) (4 * n + 4) by rw [← hW, ← hgo]; exact Fresh.made w11 (4 * n + 4))
      have HGO := Lib.hid (show gm < go ∧ w.heap.size ≤ go from ⟨by rw [← hgo]; exact HRM.out.lt, by rw [← hgo]; exact HB.out.size⟩)
      rw [hW, hgo]
      have HL := Lib.hid (((HLW.out.below' (by rw [HGM.out.1]; exact HB5.out)).more (show w5.heap.size ≤ go by have h1 := HGM.out.1; have h2 := HGO.out.1; omega)))
      have HH := Lib.hid (((HHW.out.below' (by rw [HGM.out.1]; exact HB5.out)).more (show w5.heap.size ≤ go by have h1 := HGM.out.1; have h2 := HGO.out.1; omega)))
      have HBO := Lib.hid (show Below go w11 W11 by rw [← hgo]; exact hb11)
      replace HB := Lib.hid (HB.out.stay hb11)
      clear hW hgo hb11 hmk HLW HHW HB5
      go_wp2_with fail
      have C := times_put go (4 * n + 4) (4 * n + 4) 0 (List.replicate (4 * n + 4) 0) Al _ cl (limbs (a * c)) W11 HRO.out (HL.out.below' HBO.out |>.more (Nat.le_of_lt HRO.out.lt)) (HL.out.far (Nat.le_refl _)) (by rw [List.length_replicate]) rfl (by have h1 := HKL.out.1; unfold lc at h1; omega) (by rw [val_zeros, Nat.pow_zero, Nat.one_mul, Nat.zero_add, val_limbs]; have := HPROD.out.2; omega) (by have := HN.out; omega)
      rw [Int.natCast_zero, val_zeros, Nat.pow_zero, Nat.one_mul, Nat.zero_add, val_limbs] at C
      refine C.mono ?_
      rintro e w12 ⟨v12, os12, rfl, hr, hl12, hv12, hgr⟩
      have HV12 := Lib.hid hv12
      have HL12 := Lib.hid hl12
      replace HBO := Lib.hid (below_grown HBO.out (Nat.le_of_lt HRO.out.lt) hgr.1 (Nat.le_refl _))
      replace HB := Lib.hid (show Since w w12 from below_grown HB.out HB.out.size hgr.1 HGO.out.2)
      replace HFO := Lib.hid (hgr.2 _ _ HFO.out)
      replace HRO := Lib.hid hr
      clear C hr hl12 hv12 hgr HL
      go_wp2_with fail
      have HRM2 := Lib.hid (show Lim w12 go (some ⟨gm, 0, none⟩) os11 from (HRM.out.lim HGO.out.1).below' HBO.out)
      have T := times_trim (some ⟨gm, 0, none⟩) (2 * n + 3) os11 w12 HRM2.out (by rw [HL11.out]; exact Nat.le_refl _) (by rw [HL11.out]; have := HN.out; omega)
      rw [HL11.out, HMV.out] at T
      have HTM := Lib.hid (show Lim w12 go (some ⟨gm, 0, none⟩) (limbs M) by rw [← HMV.out]; exact HRM2.out.trim)
      refine T.mono ?_
      rintro e w13 ⟨rfl, rfl⟩
      clear T HRM2
      go_wp2_with fail
      have C := times_put go (4 * n + 4) (4 * n + 4) n os12 (some ⟨gm, 0, none⟩) _ (2 * n + 3) (limbs M) w12 HRO.out (HTM.out.more (Nat.le_of_lt HRO.out.lt)) (HTM.out.far (Nat.le_refl _)) HL12.out.symm rfl (by have h1 := HML.out; unfold lc at h1; omega) (by rw [HV12.out, val_limbs]; have := HPROD.out.2; omega) (by have := HN.out; omega)
      rw [HV12.out, val_limbs] at C
      refine C.mono ?_
      rintro e w14 ⟨v14, os14, rfl, hr, hl14, hv14, hgr⟩
      have HV14 := Lib.hid hv14
      have HL14 := Lib.hid hl14
      replace HBO := Lib.hid (below_grown HBO.out (Nat.le_of_lt HRO.out.lt) hgr.1 (Nat.le_refl _))
      replace HB := Lib.hid (show Since w w14 from below_grown HB.out HB.out.size hgr.1 HGO.out.2)
      replace HFO := Lib.hid (hgr.2 _ _ HFO.out)
      replace HRO := Lib.hid hr
      clear C hr hl14 hv14 hgr HTM HV12 HL12
      go_wp2_with fail
      have C := times_put go (4 * n + 4) (4 * n + 4) (2 * n) os14 Ah _ ch (limbs (b * f)) w14 HRO.out ((HH.out.below' HBO.out).more (Nat.le_of_lt HRO.out.lt)) (HH.out.far (Nat.le_refl _)) HL14.out.symm rfl (by have h1 := HKL.out.2.1; unfold lc at h1; omega) (by rw [HV14.out, val_limbs]; exact HPROD.out.2) (by have := HN.out; omega)
      rw [HV14.out, val_limbs, HPROD.out.1, ← HX.out, ← HY.out, Int.natCast_mul, show ((2 : Nat) : Int) = 2 from rfl] at C
      refine C.mono ?_
      rintro e w15 ⟨v15, os15, rfl, hr, hl15, hv15, hgr⟩
      have HV15 := Lib.hid hv15
      have HL15 := Lib.hid hl15
      replace HB := Lib.hid (show Since w w15 from below_grown HB.out HB.out.size hgr.1 HGO.out.2)
      replace HFO := Lib.hid (hgr.2 _ _ HFO.out)
      replace HRO := Lib.hid hr
      clear C hr hl15 hv15 hgr
      go_wp2_with fail
      have T := times_trim (some ⟨go, 0, none⟩) (4 * n + 4) os15 w15 HRO.out.lim' (by rw [HL15.out]; exact Nat.le_refl _) (by rw [HL15.out]; have := HN.out; omega)
      rw [HL15.out, HV15.out] at T
      refine T.mono ?_
      rintro e w16 ⟨rfl, rfl⟩
      clear T
      go_wp2_with fail
      go_ret
      have hl3 := limbs_val_le HRO.out.small
      have ht := HRO.out.lim'.trim
      rw [HV15.out] at hl3 ht
      rw [HL15.out] at hl3
      exact ⟨_, _, rfl, hl3, ht, HFO.out.since HGO.out.2, HB.out⟩
set_option maxHeartbeats 1000000 in
set_option maxRecDepth 100000 in
theorem times_way (d g : Nat) : ∀ m, m ≤ 17179869184 → Way m d g := by
  intro m
  induction m with
  | zero =>
    intro _ A1 A2 l1 l2 c1 c2 xs ys W h1 h2 e1 e2 _ _ hm1 hm2 hw
    exact times_deep1 A1 A2 l1 l2 c1 c2 d g xs ys W h1 h2 e1 e2 (by omega) hw.cd (by omega)
  | succ m ih =>
    intro hm A1 A2 l1 l2 c1 c2 xs ys W h1 h2 e1 e2 hc1 hc2 hm1 hm2 hw
    by_cases hs : min l1 l2 < 24
    · exact times_deep1 A1 A2 l1 l2 c1 c2 d g xs ys W h1 h2 e1 e2 (by omega) hw.cd hs
    · have hsI : ¬ min (l1 : Int) (l2 : Int) < 24 := by omega
      have HH := Lib.hid (times_halves m d g (ih (by omega)) A1 A2 l1 l2 c1 c2 xs ys W h1 h2 e1 e2 hc1 hc2 (by omega) (by omega) (by omega) (by omega) (by omega) hw)
      have hd := hw.cd
      have hg := hw.cg
      unfold wayF at hg
      clear ih h1 h2 e1 e2 hc1 hc2 hm1 hm2 hw hs
      go_enter Tryz.func120, Tryz.ntmps120
      go_wp2_with fail
      refine HH.out.mono ?_
      rintro e w1 ⟨A, c, rfl, hc, hl, hf, hb⟩
      have H := Lib.hid (And.intro hc (And.intro hl (And.intro hf hb)))
      clear hc hl hf hb hd hg
      go_wp2_with fail
      go_ret
      exact ⟨A, c, rfl, H.out.1, H.out.2.1, H.out.2.2.1, H.out.2.2.2⟩
end Go.Proofs.YtonbhpadoplpkaaGreat
/- The package times: Mul of any numbers. -/
namespace Go.Proofs.YtonbhpadoplpkaaGreat
open Go.RowKit Go.Deep
set_option maxRecDepth 100000 in
theorem times_told_any (u v : Value) (d p : Nat) (x y : Int) (w : World) (hx : IntV w u x) (hy : IntV w v y) (lx : lc x.natAbs ≤ 4096) (ly : lc y.natAbs ≤ 4096) (hd : WayC w d p) :
    Calls Tryz.prog 80 #[u, v, .func (.func 120) #[] #[.pointer (some ⟨d, 0, none⟩), .pointer (some ⟨p, 0, none⟩)]] w fun e w' => ∃ v', e = .returned (.tuple #[v', .int .i64 (longE (x * y))]) ∧ RawAt w' w.heap.size v' (longR (x * y)) ∧ Below w.heap.size w w' := by
  obtain ⟨A1, l1, c1, rfl, hl1, hc1, hlim1⟩ := hx
  obtain ⟨A2, l2, c2, rfl, hl2, hc2, hlim2⟩ := hy
  have HR1 := Lib.hid (right_of lx)
  have HR2 := Lib.hid (right_of ly)
  have HL1 := Lib.hid hl1
  have HL2 := Lib.hid hl2
  have hI1 : (l1 : Int) ≤ 4096 := by unfold lc at lx; omega
  have hI2 : (l2 : Int) ≤ 4096 := by unfold lc at ly; omega
  have HX := Lib.hid lx
  have HY := Lib.hid ly
  clear hl1 hl2 lx ly
  obtain ⟨s1, hs1⟩ : ∃ s, decide (x < 0) = s := ⟨_, rfl⟩
  obtain ⟨s2, hs2⟩ : ∃ s, decide (y < 0) = s := ⟨_, rfl⟩
  have HS1 := Lib.hid hs1
  have HS2 := Lib.hid hs2
  rw [hs1, hs2]
  clear hs1 hs2
  have HCC := Lib.hid (And.intro hc1 hc2)
  have HDD := Lib.hid hd
  clear hd
  go_enter Tryz.func80, Tryz.ntmps80
  go_wp2_with fail
  obtain ⟨W0, g, h, r, hW, hg, hh, hr, hgr, bx, by_, br, hbw, hsz⟩ := box_three w (.bool s1) (.slice A1 l1 c1) (.bool s2) (.slice A2 l2 c2) (.bool false) (.slice none 0 0)
  have HW := Lib.hid (show w.heap.size = g from hg)
  replace HDD := Lib.hid (HDD.out.stay (show Below w.heap.size w W0 from hg ▸ hbw))
  rw [hW, hr, hh, hg]
  have k1 := ((hg ▸ hlim1 : Lim w g A1 (limbs x.natAbs)).below hbw)
  have k2 := ((hg ▸ hlim2 : Lim w g A2 (limbs y.natAbs)).below hbw)
  clear hW hr hh hlim1 hlim2
  refine (limb_right s1 A1 l1 c1 (limbs x.natAbs) W0 (by omega) k1 HL1.out).mono ?_
  rintro e w1 ⟨rfl, hb1⟩
  rw [← HS1.out, HR1.out, HS1.out]
  replace HDD := Lib.hid (HDD.out.stay hb1)
  have bx := bx.below hb1 bx.lt
  have by_ := by_.below hb1 by_.lt
  have br := br.below hb1 br.lt
  have hbw1 := hbw.trans (hb1.mono (by omega))
  have k1 := k1.below (hb1.mono (by omega))
  have k2 := k2.below (hb1.mono (by omega))
  have hsz1 := hb1.size
  have a0 := bx.cell0
  have a1 := bx.cell1
  have b0 := by_.cell0
  have b1 := by_.cell1
  clear hb1 hg
  go_wp2_with fail
  refine (limb_right s2 A2 l2 c2 (limbs y.natAbs) w1 (by omega) k2 HL2.out).mono ?_
  rintro e w2 ⟨rfl, hb2⟩
  rw [← HS2.out, HR2.out, HS2.out]
  replace HDD := Lib.hid (HDD.out.stay hb2)
  have bx := bx.below hb2 bx.lt
  have by_ := by_.below hb2 by_.lt
  have br := br.below hb2 br.lt
  have hbw2 := hbw1.trans (hb2.mono (by omega))
  have k1 := (k1.below (hb2.mono (by omega))).more (show g ≤ w2.heap.size by have := hb2.size; omega)
  have k2 := (k2.below (hb2.mono (by omega))).more (show g ≤ w2.heap.size by have := hb2.size; omega)
  have HSZ2 := Lib.hid (show g + 3 ≤ w2.heap.size by have := hb2.size; omega)
  clear hb2 a0 a1 b0 b1 hbw1 hbw hsz1 hsz
  have a0 := bx.cell0
  have a1 := bx.cell1
  have b0 := by_.cell0
  have b1 := by_.cell1
  have hNN := Int.natAbs_mul x y
  by_cases hbig : 4097 < l1 + l2
  · have hLONG : 4096 < lc (x * y).natAbs := by
      rw [hNN]
      have e1 := HL1.out
      have e2 := HL2.out
      have h1 : 0 < x.natAbs := Nat.pos_of_ne_zero fun h => by rw [h, limbs_zero] at e1; simp at e1; omega
      have h2 : 0 < y.natAbs := Nat.pos_of_ne_zero fun h => by rw [h, limbs_zero] at e2; simp at e2; omega
      have := lc_mul_ge h1 h2
      unfold lc at this ⊢
      omega
    have HR := Lib.hid (show longR (x * y) = (false, []) by unfold longR; rw [if_pos hLONG])
    have HE := Lib.hid (show longE (x * y) = 3 by unfold longE; rw [if_pos hLONG])
    have t2 : (0 : Int) < (l1 : Int) := by omega
    have t3 : (0 : Int) < (l2 : Int) := by omega
    have t1 : (4097 : Int) < (l1 : Int) + (l2 : Int) := by omega
    have d0 := br.cell0
    have d1 := br.cell1
    have fr := br.free
    clear hLONG hNN
    go_wp2_with fail
    refine bodyPost_ret (v := .tuple #[.agg #[.bool false, (.slice none 0 0)], (.int .i64 3)]) (by
      rw [results_cell_tmp rfl]
      have hld := run_loadVar_row (P := Tryz.prog) _ r 24 24 #[.bool false, (.slice none 0 0)] (0, 0) _ br.store Tryz.underlying24 rfl (by kernel_rfl)
      simp [asAddr, Result.andThen, hld]) rfl ?_
    rw [HR.out, HE.out]
    exact ⟨_, rfl, RawAt.zero _ _, by rw [HW.out]; exact store2_below hbw2 (by omega)⟩
  · have HNB := Lib.hid hbig
    have HNN := Lib.hid hNN
    have hcnd : ¬ ((4097 : Int) < (l1 : Int) + (l2 : Int)) := by omega
    have HBR := Lib.hid br
    have HBW := Lib.hid hbw2
    clear hbig hNN
    go_wp2_with fail
    refine (times_way d p 17179869184 (Nat.le_refl _) A1 A2 l1 l2 c1 c2 (limbs x.natAbs) (limbs y.natAbs) w2 k1 k2 HL1.out HL2.out HCC.out.1 HCC.out.2 (by omega) (by omega) HDD.out).mono ?_
    rintro e w3 ⟨A, c, rfl, hc, hlim, hf, hb3⟩
    rw [val_limbs, val_limbs, ← HNN.out] at hc hlim ⊢
    obtain ⟨n, hn⟩ : ∃ n, (limbs (x * y).natAbs).length = n := ⟨_, rfl⟩
    have HN := Lib.hid hn
    rw [hn]
    have br3 := HBR.out.below hb3 HBR.out.lt
    have bx3 := bx.below hb3 bx.lt
    have by3 := by_.below hb3 by_.lt
    have HBF := Lib.hid (HBW.out.trans (hb3.mono (by have := HSZ2.out; omega)))
    have HF := Lib.hid hf
    have HLIM := Lib.hid hlim
    have HC := Lib.hid (show n ≤ c by rw [← hn]; exact hc)
    clear a0 a1 b0 b1 hn hc hlim hf hb3 bx by_ br
    have a0 := bx3.cell0
    have b0 := by3.cell0
    have d0 := br3.cell0
    have d1 := br3.cell1
    have fr := br3.free
    by_cases hlong : 4096 < n
    · have HR := Lib.hid (show longR (x * y) = (false, []) by unfold longR; rw [if_pos (by unfold lc; rw [HN.out]; exact hlong)])
      have HE := Lib.hid (show longE (x * y) = 3 by unfold longE; rw [if_pos (by unfold lc; rw [HN.out]; exact hlong)])
      have hlI : (4096 : Int) < (n : Int) := by omega
      clear hlong
      go_wp2_with fail
      refine bodyPost_ret (v := .tuple #[.agg #[.bool false, (.slice none 0 0)], (.int .i64 3)]) (by
        rw [results_cell_tmp rfl]
        have hld := run_loadVar_row (P := Tryz.prog) _ r 24 24 #[.bool false, (.slice none 0 0)] (0, 0) _ br3.store Tryz.underlying24 rfl (by kernel_rfl)
        simp [asAddr, Result.andThen, hld]) rfl ?_
      rw [HR.out, HE.out]
      exact ⟨_, rfl, RawAt.zero _ _, by rw [HW.out]; exact store2_below HBF.out (by omega)⟩
    · have HOK : lc (x * y).natAbs ≤ 4096 := by unfold lc; rw [HN.out]; omega
      have HR := Lib.hid (longR_ok HOK)
      have HE := Lib.hid (longE_ok HOK)
      have hlI : ¬ ((4096 : Int) < (n : Int)) := by omega
      have HSG := Lib.hid (show decide (x * y < 0) = (decide (0 < n) && (s1 != s2)) by
        have h1 := signed_mul' s1 s2 x.natAbs y.natAbs
        rw [← HS1.out, ← HS2.out, signed_of, signed_of, HS1.out, HS2.out] at h1
        rw [← h1, signed_neg, Bool.and_comm, ← HN.out, ← Int.natAbs_mul, some_limbs])
      have HFIN := Lib.hid (fun (b : Bool) (hb : b = decide (x * y < 0)) => show RawAt ((w3.setCell ⟨r, 0, none⟩ (.bool b)).setCell ⟨r, 1, none⟩ (.slice A n c)) w.heap.size (.agg #[.bool b, .slice A n c]) (rawOf (x * y)) from by
        subst hb
        have h1 : RawAt w3 w2.heap.size (.agg #[.bool (decide (x * y < 0)), .slice A n c]) (rawOf (x * y)) := ⟨A, n, c, rfl, HN.out.symm, HC.out, HLIM.out, HF.out⟩
        exact (h1.ext (ext_store2 br3.nums) (fun i hi => by subst hi; have := HSZ2.out; omega)).since (by rw [HW.out]; have := HSZ2.out; omega))
      clear hlong HOK
      by_cases hn0 : 0 < n
      · have hn0I : (0 : Int) < (n : Int) := by omega
        have HB := Lib.hid (show (!(s1 == s2)) = decide (x * y < 0) by rw [HSG.out, decide_eq_true hn0, Bool.true_and]; rfl)
        clear hn0
        go_wp2_with fail
        refine bodyPost_ret (v := .tuple #[.agg #[.bool (!(s1 == s2)), (.slice A n c)], (.int .i64 0)]) (by
          rw [results_cell_tmp rfl]
          have hld := run_loadVar_row (P := Tryz.prog) _ r 24 24 #[.bool (!(s1 == s2)), (.slice A n c)] (0, 0) _ br3.store Tryz.underlying24 rfl (by kernel_rfl)
          simp [asAddr, Result.andThen, hld]) rfl ?_
        rw [HR.out, HE.out]
        exact ⟨_, rfl, HFIN.out _ HB.out, by rw [HW.out]; exact store2_below HBF.out (by omega)⟩
      · have hn0I : ¬ ((0 : Int) < (n : Int)) := by omega
        have HB := Lib.hid (show false = decide (x * y < 0) by rw [HSG.out, decide_eq_false hn0, Bool.false_and])
        clear hn0
        go_wp2_with fail
        refine bodyPost_ret (v := .tuple #[.agg #[.bool false, (.slice A n c)], (.int .i64 0)]) (by
          rw [results_cell_tmp rfl]
          have hld := run_loadVar_row (P := Tryz.prog) _ r 24 24 #[.bool false, (.slice A n c)] (0, 0) _ br3.store Tryz.underlying24 rfl (by kernel_rfl)
          simp [asAddr, Result.andThen, hld]) rfl ?_
        rw [HR.out, HE.out]
        exact ⟨_, rfl, HFIN.out _ HB.out, by rw [HW.out]; exact store2_below HBF.out (by omega)⟩
set_option maxHeartbeats 1000000 in
set_option maxRecDepth 100000 in
theorem times_Mul_any (u v : Value) (x y : Int) (w : World) (hx : IntV w u x) (hy : IntV w v y) (lx : lc x.natAbs ≤ 4096) (ly : lc y.natAbs ≤ 4096) :
    Calls Tryz.prog 40 #[u, v] w fun e w' => ∃ v', e = .returned (.tuple #[v', .int .i64 (longE (x * y))]) ∧ RawAt w' w.heap.size v' (longR (x * y)) ∧ Below w.heap.size w w' := by
  obtain ⟨s1, A1, l1, c1, rfl, HU⟩ := hx.open
  obtain ⟨s2, A2, l2, c2, rfl, HV⟩ := hy.open
  have LX := Lib.hid lx
  have LY := Lib.hid ly
  clear hx hy lx ly
  go_enter Tryz.func40, Tryz.ntmps40
  go_wp2_with fail
  obtain ⟨W0, g, h, r, hW, hg, hh, hr, hgr, bx, by_, br, hbw, hsz⟩ := box_three w (.bool s1) (.slice A1 l1 c1) (.bool s2) (.slice A2 l2 c2) (.bool false) (.slice none 0 0)
  have HW := Lib.hid (show w.heap.size = g from hg)
  rw [hW, hr, hh, hg]
  have HBW := Lib.hid hbw
  have HBWS := Lib.hid (show Below w.heap.size w W0 from by rw [hg]; exact hbw)
  clear hW hr hg hh hbw
  refine wp_region_stages (fun w' => ∃ δ : Later Nix W0, w' = δ.world) [(false, 0), (false, 1), (true, 2), (true, 3), (false, 4), (false, 5)] 6 [.reads [_, _], .loud _, .loud _, .reads [_, _]] [_, _] (by kernel_rfl) (by kernel_rfl) rfl rfl ?_ ?_
  · exact ⟨⟨_, nix_drawn W0⟩, rfl⟩
  have r0 := later_cell bx.cell0
  have r1 := later_cell bx.cell1
  have r2 := later_cell by_.cell0
  have r3 := later_cell by_.cell1
  refine wpStages_reads ?_
  repeat (go_big_quiet_step (fail))
  refine wpQuiet_nil ?_
  refine wpStages_loud rfl ?_
  intro K hK
  go_big_op
  refine (times_deep _).mono ?_
  rintro e w1 ⟨d, p, rfl, hd, hp, hsz1, hb1, hcd, hcp⟩
  have he1 : Ext Nix W0 w1 := (nix_drawn W0).later (Ext.of_below hb1)
  have HD := Lib.hid (show d < w1.heap.size by have h : (W0.drewN 1).heap.size = W0.heap.size := rfl; omega)
  clear hd hp hsz1
  refine hK _ _ ⟨⟨w1, he1⟩, rfl⟩ ?_
  clear hK K
  refine wpStages_loud rfl ?_
  intro K hK
  go_big_op
  have hb01 : Below W0.heap.size W0 w1 := Ext.below (he1.mono (fun _ _ h => h) (fun _ h => h.elim))
  refine (times_told_any _ _ d p x y w1 ((HU.out.below HBWS.out).below hb01) ((HV.out.below HBWS.out).below hb01) LX.out LY.out ⟨hcd, hcp⟩).mono ?_
  rintro e w2 ⟨v2, rfl, hv2, hb2⟩
  have he2 : Ext Nix W0 w2 := he1.later (Ext.of_below hb2)
  refine hK _ _ ⟨⟨w2, he2⟩, rfl⟩ ?_
  clear hK K
  obtain ⟨E, hE⟩ : ∃ E : Int, longE (x * y) = E := ⟨_, rfl⟩
  have HE := Lib.hid hE
  rw [hE]
  clear hE
  obtain ⟨b2, B2, m2, d2, rfl, HV2⟩ := hv2.open
  have hb02 : Below W0.heap.size W0 w2 := Ext.below (he2.mono (fun _ _ h => h) (fun _ h => h.elim))
  have br2 := br.below hb02 br.lt
  have HB2 := Lib.hid (HBW.out.trans (hb02.mono (by omega)))
  have hbl := hb01.size
  have HR := Lib.hid ((HV2.out.ext (ext_store2 (a := .bool b2) (b := .slice B2 m2 d2) br2.nums) (fun i hi => by subst hi; omega)).since (base' := w.heap.size) (by rw [HW.out]; omega))
  have d0 := br2.cell0
  have d1 := br2.cell1
  have fr := br2.free
  clear hv2 hb2 hb1 hcd hcp r0 r1 r2 r3
  refine wpStages_reads ?_
  repeat (go_big_quiet_step (fail))
  refine wpQuiet_nil ?_
  refine wpStages_nil ?_
  go_wp2_with fail
  refine bodyPost_ret (v := .tuple #[.agg #[.bool b2, (.slice B2 m2 d2)], (.int .i64 E)]) (by
    rw [results_cell_tmp rfl]
    have hld := run_loadVar_row (P := Tryz.prog) _ r 24 24 #[.bool b2, (.slice B2 m2 d2)] (0, 0) _ br2.store Tryz.underlying24 rfl (by kernel_rfl)
    simp [asAddr, Result.andThen, hld]) rfl ?_
  rw [HE.out]
  exact ⟨_, rfl, HR.out, by rw [HW.out]; exact store2_below HB2.out (by omega)⟩
end Go.Proofs.YtonbhpadoplpkaaGreat
