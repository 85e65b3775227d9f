import Derived.Test.YtonbhpadoplpkaaDiv2
import Derived.Test.YtonbhpadoplpkaaDivQ
import Derived.Test.YtonbhpadoplpkaaStay
import Derived.Test.YtonbhpadoplpkaaPlan2
import Derived.WalkMore
/- The package divide: long. -/
namespace Go.Proofs.Ytonbhpadoplpkaa
open Go.RowKit Go.Deep
theorem Row.stay {w w' : World} {g : Nat} {os : List Nat} (h : Row w g os) (hb : Below w.heap.size w w') : Row w' g os := h.call hb
theorem wraps_eq {a : Int} {m : Nat} (h : a = (m : Int)) (hm : m < 9223372036854775808) : IntKind.i64.wrap a = (m : Int) ∧ wrap64 a = (m : Int) := by
  subst h
  have h : IntKind.i64.wrap (m : Int) = (m : Int) := by rw [IntKind.wrap_i64]; omega
  exact ⟨h, by unfold wrap64; omega⟩
theorem long_index {j n D la lb : Nat} (hn : lb + 2 = n) (hla : la = D + (lb + 2)) (hj : j + 1 ≤ D + 1) (hl : la ≤ 549755813888) :
    ∃ m2 m1 m0 n1 : Nat, j + (lb + 2) = m2 ∧ j + (lb + 1) = m1 ∧ j + lb = m0 ∧ lb + 1 = n1 ∧ (j : Int) < (D : Int) + 1 ∧ (m2 : Int) < (la : Int) + 1 ∧ (m1 : Int) < (la : Int) + 1 ∧ (m0 : Int) < (la : Int) + 1 ∧ (n1 : Int) < (n : Int) ∧ (lb : Int) < (n : Int) ∧ (j : Int) ≤ 549755813888 ∧
      (IntKind.i64.wrap ((j : Int) + (n : Int)) = (m2 : Int) ∧ wrap64 ((j : Int) + (n : Int)) = (m2 : Int)) ∧
      (IntKind.i64.wrap ((m2 : Int) - 1) = (m1 : Int) ∧ wrap64 ((m2 : Int) - 1) = (m1 : Int)) ∧
      (IntKind.i64.wrap ((m2 : Int) - 2) = (m0 : Int) ∧ wrap64 ((m2 : Int) - 2) = (m0 : Int)) ∧
      (IntKind.i64.wrap ((n : Int) - 1) = (n1 : Int) ∧ wrap64 ((n : Int) - 1) = (n1 : Int)) ∧
      (IntKind.i64.wrap ((n : Int) - 2) = (lb : Int) ∧ wrap64 ((n : Int) - 2) = (lb : Int)) :=
  ⟨_, _, _, _, rfl, rfl, rfl, rfl, by omega, by omega, by omega, by omega, by omega, by omega, by omega, wraps_eq (by omega) (by omega), wraps_eq (by omega) (by omega), wraps_eq (by omega) (by omega), wraps_eq (by omega) (by omega), wraps_eq (by omega) (by omega)⟩
theorem Ext.of_nix {w w' : World} (h : Below w.heap.size w w') : Ext Nix w w' := ⟨h.os, h.tape, h.output, h.size, fun i hi _ => h.block i hi, fun _ h => h.elim⟩
/-- The numbers of the long division. -/
structure DSum (V M j : Nat) (us os : List Nat) : Prop where
  less : val (us.drop j) < V
  sum : M = val us + val (os.drop j) * W64 ^ j * V
theorem long_taken {us us1 vs os : List Nat} {j lb V q b M : Nat} (hs : Small us) (hvs : Small vs) (hvl : vs.length = lb + 2) (hV : val vs = V) (hVp : 0 < V) (hVl : V < W64 ^ (lb + 2)) (hul : j + (lb + 3) ≤ us.length) (S : DSum V M (j + 1) us os)
    {u2 u1 u0 v1 v0 : Nat} (hu : us.getD (j + (lb + 2)) 0 = u2 ∧ us.getD (j + (lb + 1)) 0 = u1 ∧ us.getD (j + lb) 0 = u0 ∧ vs.getD (lb + 1) 0 = v1 ∧ vs.getD lb 0 = v0) (G : Guess u2 u1 u0 v1 v0 q)
    (hlen : us1.length = us.length) (htk : us1.take j = us.take j) (hdr : us1.drop (j + (lb + 3)) = us.drop (j + (lb + 3))) (hv : val ((us1.drop j).take (lb + 3)) + q * val vs = val ((us.drop j).take (lb + 3)) + W64 ^ (lb + 3) * b) (hb : b ≤ 1) :
    (b = 0 ∧ Given us us1 j lb V q) ∨ (b = 1 ∧ Giving us us1 j lb V q) := by
  obtain ⟨h1, _⟩ := over_win (lb := lb + 2) hs hul hVl S.less
  obtain ⟨e2, e1, e0, e4, e3⟩ := hu
  have hwl : ((us.drop j).take (lb + 3)).length = lb + 3 := by rw [List.length_take, List.length_drop]; omega
  have hg := guess_window ((hs.drop j).take (lb + 3)) hvs hvl hwl (g := q) (by
    rw [getD_win us j (lb + 3) (lb + 2) (by omega), getD_win us j (lb + 3) (lb + 1) (by omega), getD_win us j (lb + 3) lb (by omega), e2, e1, e0, e4, e3]; exact G) (by rw [hV]; exact h1)
  rw [hV] at hg hv
  exact taken hlen htk hdr hv hb hg.1 hg.2 hVp
theorem long_given {us us1 os : List Nat} {j lb V q M : Nat} (hs : Small us) (hVp : 0 < V) (hVl : V < W64 ^ (lb + 2)) (hul : j + (lb + 3) ≤ us.length) (hj : j < os.length) (S : DSum V M (j + 1) us os) (G : Given us us1 j lb V q) : DSum V M j us1 (os.set j q) := by
  obtain ⟨h1, h2⟩ := over_step (lb := lb + 2) hs G.len hul hVp hVl S.less S.sum G.quo G.tk G.dr G.rest hj
  exact ⟨h1, h2⟩
theorem top_none {us : List Nat} {k : Nat} (hk : k < us.length) (h : val us < W64 ^ k) : val (us.take k) = val us ∧ us.getD k 0 = 0 := by
  have h1 := val_split us k (by omega)
  have h2 := val_drop_step us k hk
  have h0 : val (us.drop k) = 0 := by
    rcases Nat.eq_zero_or_pos (val (us.drop k)) with h3 | h3
    · exact h3
    · have := Nat.mul_le_mul_left (W64 ^ k) h3
      omega
  rw [h0] at h1 h2
  constructor
  · omega
  · omega
theorem rest_limb {k x y s : Nat} (hx : x < W64) (hs : s < 64) (hk : k ≤ 549755813888) :
    ∃ k1 t63 xd y2 yd d : Nat, k + 1 = k1 ∧ IntKind.i64.wrap ((k : Int) + 1) = (k1 : Int) ∧ IntKind.i64.wrap ((63 : Int) - (s : Int)) = (t63 : Int) ∧ (x : Int) / 2 ^ s = (xd : Int) ∧ IntKind.u64.wrap ((y : Int) * 2) = (y2 : Int) ∧ IntKind.u64.wrap ((y2 : Int) * 2 ^ min t63 64) = (yd : Int) ∧
      bits .or .u64 (xd : Int) (yd : Int) = (d : Int) ∧ d < W64 ∧ d * 2 ^ s + x % 2 ^ s = x + W64 * (y % 2 ^ s) := by
  obtain ⟨h1, h2, h3⟩ := shr_step (y := y) hx hs
  have e1 : IntKind.u64.wrap ((y : Int) * 2) = ((y * 2 % W64 : Nat) : Int) := by
    have e : (y : Int) * 2 = ((y * 2 : Nat) : Int) := by simp
    rw [e, wrap_u64_nat]
  have e2 : IntKind.u64.wrap (((y * 2 % W64 : Nat) : Int) * 2 ^ (63 - s)) = ((y * 2 ^ (64 - s) % W64 : Nat) : Int) := by
    have e : ((y * 2 % W64 : Nat) : Int) * 2 ^ (63 - s) = ((y * 2 % W64 * 2 ^ (63 - s) : Nat) : Int) := by simp
    rw [e, wrap_u64_nat]
    congr 1
    rw [Nat.mod_mul_mod, Nat.mul_assoc, show 64 - s = (63 - s) + 1 by omega, Nat.pow_succ, Nat.mul_comm 2]
  have e3 : IntKind.i64.wrap ((63 : Int) - (s : Int)) = ((63 - s : Nat) : Int) := (wraps_eq (m := 63 - s) (by omega) (by omega)).1
  exact ⟨_, _, x / 2 ^ s, _, y * 2 ^ (64 - s) % W64, _, rfl, (wraps_eq (m := k + 1) (by omega) (by omega)).1, e3, by rw [Int.natCast_ediv, Int.natCast_pow]; rfl, e1, by rw [Nat.min_eq_left (by omega)]; exact e2, by
    rw [u64_or_nat _ _ (by rw [← W64_eq]; exact Nat.lt_of_le_of_lt (Nat.div_le_self _ _) hx) (by rw [← W64_eq]; exact Nat.mod_lt _ W64_pos), h3], h1, h2⟩
theorem rest_join {a b c P W R d x xm ym : Nat} (h : a * R + c = b + P * xm) (hd : d * R + xm = x + W * ym) : (a + P * d) * R + c = b + P * x + P * W * ym := by
  have : P * (d * R + xm) = P * (x + W * ym) := by rw [hd]
  grind
theorem Row.grew {w w' : World} {g gr : Nat} {os : List Nat} (h : Row w g os) (hg : w.grownBy w' (some gr)) (hne : g ≠ gr) : Row w' g os := h.of_block (hg.block g h.lt (by intro e; injection e; omega))
theorem getD_set_at {os : List Nat} {j g : Nat} (h : j < os.length) : (os.set j g).getD j 0 = g := by rw [List.getD_eq_getElem?_getD, List.getElem?_set_self h]; rfl
theorem wraps_s {n : Int} (h0 : 0 ≤ n) (h1 : n < 9223372036854775808) : IntKind.i64.wrap n = n ∧ wrap64 n = n := by
  have h : IntKind.i64.wrap n = n := by rw [IntKind.wrap_i64]; omega
  exact ⟨h, by unfold wrap64; omega⟩
theorem Fresh.grown {w w' : World} {base g c : Nat} {A : Option Addr} (h : Fresh w base A c) (hg : w.grownBy w' (some g)) (hne : ∀ ad, A = some ad → ad.block ≠ g) : Fresh w' base A c := by
  rcases h with h | ⟨k, cs, h1, h2, h3, h4⟩
  · exact .inl h
  · exact .inr ⟨k, cs, h1, h2, by rw [hg.block k (Array.getElem?_eq_some_iff.1 h3).1 (by intro e; injection e with e; exact hne _ h1 e)]; exact h3, h4⟩
theorem Row.lim' {w : World} {g : Nat} {os : List Nat} (h : Row w g os) : Lim w w.heap.size (some ⟨g, 0, none⟩) os := h.lim h.lt
/-- The memory of the long division. -/
structure DMem (w wr : World) (gu gv gq la D n : Nat) (vs us os : List Nat) : Prop where
  ru : Row wr gu us
  lu : us.length = la + 1
  ro : Row wr gq os
  lo : os.length = D + 1
  fq : Fresh wr w.heap.size (some ⟨gq, 0, none⟩) (D + 1)
  bel : Below w.heap.size w wr
  rv : Row wr gv vs
  lv : vs.length = n
  base : w.heap.size ≤ gu
  ne1 : gu < gv
  ne2 : gv < gq
section
variable {w wr w' : World} {gu gv gq la D n : Nat} {vs us os us' : List Nat}
theorem DMem.stay (h : DMem w wr gu gv gq la D n vs us os) (hb : Below wr.heap.size wr w') : DMem w w' gu gv gq la D n vs us os :=
  ⟨h.ru.call hb, h.lu, h.ro.call hb, h.lo, h.fq.below hb, h.bel.trans (hb.mono h.bel.size), h.rv.call hb, h.lv, h.base, h.ne1, h.ne2⟩
theorem DMem.setq (h : DMem w wr gu gv gq la D n vs us os) {j g : Nat} (hj : j < D + 1) (hg : g < W64) : DMem w (wr.setCell ⟨gq, j, none⟩ (.int .u64 (g : Int))) gu gv gq la D n vs us (os.set j g) :=
  ⟨h.ru.far (p := ⟨gq, j, none⟩) (by have := h.ne1; have := h.ne2; show gu ≠ gq; omega) _, h.lu, h.ro.set (by rw [h.lo]; exact hj) hg, by rw [List.length_set, h.lo], h.fq.set gq j _,
    h.bel.setCell (p := ⟨gq, j, none⟩) (by have := h.base; have := h.ne1; have := h.ne2; show w.heap.size ≤ gq; omega) _, h.rv.far (p := ⟨gq, j, none⟩) (by have := h.ne2; show gv ≠ gq; omega) _, h.lv, h.base, h.ne1, h.ne2⟩
theorem DMem.grown (h : DMem w wr gu gv gq la D n vs us os) (hg : wr.grownBy w' (some gu)) (hr : Row w' gu us') (hl : us'.length = us.length) : DMem w w' gu gv gq la D n vs us' os := by
  have e1 := h.ne1
  have e2 := h.ne2
  have eq : w'.heap[gq]? = wr.heap[gq]? := hg.block gq h.ro.lt (by intro e; injection e; omega)
  refine ⟨hr, hl.trans h.lu, h.ro.of_block eq, h.lo, h.fq.grown hg (fun _ e => by injection e with e; subst e; exact (Nat.ne_of_lt (Nat.lt_trans e1 e2)).symm), below_grown h.bel h.bel.size hg h.base, h.rv.of_block (hg.block gv h.rv.lt (by intro e; injection e; omega)), h.lv, h.base, h.ne1, h.ne2⟩
end
set_option maxHeartbeats 800000 in
set_option maxRecDepth 100000 in
theorem divide_long (A1 A2 : Option Addr) (c1 c2 D lb : Nat) (xs ys : List Nat) (w : World) (h1 : Lim w w.heap.size A1 xs) (h2 : Lim w w.heap.size A2 ys) (hyl : ys.length = lb + 2) (hxl : xs.length = D + (lb + 2)) (hl : xs.length ≤ 549755813888) (ht : ys.getD (lb + 1) 0 ≠ 0) :
    Calls Try.prog 60 #[.slice A1 xs.length c1, .slice A2 ys.length c2] w fun e w' => ∃ u v, e = .returned (.tuple #[u, v]) ∧ Part w' w.heap.size u (val xs / val ys) ∧ Part w' w.heap.size v (val xs % val ys) ∧ Sep u v ∧ Below w.heap.size w w' := by
  have HST := Lib.hid (long_start h1.small h2.small hyl hxl ht)
  obtain ⟨ad, rfl, hb, hcell⟩ := h2.at_ (k := lb + 1) (by omega)
  obtain ⟨t, htt⟩ : ∃ t, ys.getD (lb + 1) 0 = t := ⟨_, rfl⟩
  have htW : t < W64 := htt ▸ h2.small.getD _
  rw [htt] at hcell HST
  rw [add_succ] at hcell
  have hlz := Lib.hid (bits_lz64 t htW)
  obtain ⟨s, hs⟩ : ∃ s, 64 - bitLen t = s := ⟨_, rfl⟩
  rw [hs] at HST hlz
  have H1 := Lib.hid h1
  have H2 := Lib.hid h2
  have HL1 := Lib.hid (And.intro hxl hl)
  have HYL := Lib.hid hyl
  have lbI : (lb : Int) + 2 ≤ 549755813888 := by omega
  have hsh1 := divide_shifted A1 c1 xs s
  have hsh2 := divide_shifted (some ad) c2 ys s
  rw [hyl] at hsh2 ⊢
  have HS1 := Lib.hid hsh1
  have HS2 := Lib.hid hsh2
  clear hsh1 hsh2
  have rD : (xs.length : Int) - ((lb : Int) + 2) = (D : Int) := by omega
  have hxI : (xs.length : Int) ≤ 549755813888 := by omega
  have hDI : (D : Int) ≤ 549755813888 := by omega
  have hmk := make_limbs_succ D (by omega)
  clear hl htt ht hs h1 h2 hb hyl htW hxl
  go_enter Try.func60, Try.ntmps60
  go_wp2_with fail
  go_step3
  go_wp2_with fail
  refine (hlz.out _).mono ?_
  rintro e w1 ⟨rfl, rfl⟩
  clear hcell
  go_upto_region 3 with (fail)
  refine wp_region_stages (fun w' => ∃ δ : Later Nix w, w' = δ.world) [(false, 0), (false, 1), (false, 3), (false, 4), (false, 6), (true, 2), (true, 5), (false, 7), (false, 8)] 9 [.reads [_, _, _, _, _], .loud _, .loud _, .reads [_, _]] [_] (by kernel_rfl) (by kernel_rfl) rfl rfl ?_ ?_
  · exact ⟨⟨_, nix_drawn w⟩, rfl⟩
  refine wpStages_reads ?_
  repeat (go_big_quiet_step (fail))
  refine wpQuiet_nil ?_
  refine wpStages_loud rfl ?_
  intro K hK
  go_big_op
  have ex : Ext Nix w (w.drewN 1) := nix_drawn w
  have hb : Below w.heap.size w (w.drewN 1) := below_drewN (Below.refl _ _) 1
  replace H1 := Lib.hid (H1.out.stay hb)
  replace H2 := Lib.hid (H2.out.stay hb)
  clear hb
  refine ((HS1.out _ (Nat.le_refl _) H1.out (by have := HL1.out; omega) HST.out.1)).mono ?_
  rintro e w1 ⟨gu, us0, rfl, hgu, hul, hrow, hfr, hval, hb⟩
  replace ex : Ext Nix w w1 := ex.later (Ext.of_below hb)
  replace H2 := Lib.hid (H2.out.stay hb)
  clear hb
  refine hK _ _ ⟨⟨_, ex⟩, rfl⟩ ?_
  clear hK K
  have HR1 := Lib.hid hrow
  have HUL := Lib.hid (And.intro hul hval)
  clear hfr hrow hul hval
  refine wpStages_loud rfl ?_
  intro K hK
  go_big_op
  refine ((HS2.out _ (Nat.le_refl _) H2.out (by have := HL1.out; have := HYL.out; omega) HST.out.1)).mono ?_
  rintro e w2 ⟨gv, vs0, rfl, hgv, hvl, hrow, hfr, hval, hb⟩
  replace ex : Ext Nix w w2 := ex.later (Ext.of_below hb)
  replace HR1 := Lib.hid (HR1.out.stay hb)
  clear hb
  refine hK _ _ ⟨⟨_, ex⟩, rfl⟩ ?_
  clear hK K
  have HRV := Lib.hid hrow
  have HVL := Lib.hid (And.intro hvl hval)
  have HGG := Lib.hid (show w.heap.size ≤ gu ∧ gu < gv by have h1 : w.heap.size ≤ gu := hgu.1; have h2 := hgu.2; have h3 := hgv.1; omega)
  clear hrow hfr hvl hval hgu hgv
  refine wpStages_reads ?_
  repeat (go_big_quiet_step (fail))
  refine wpQuiet_nil ?_
  refine wpStages_nil ?_
  have HB := Lib.hid (show Below w.heap.size w w2 from ex.below)
  go_upto_region 5 with (fail)
  go_step3
  obtain ⟨W4, gq, hW4, hgq⟩ : ∃ W gq, w2.alloc (.cells (madeCells #[.int .u64 0] (D + 1)) 53) = W ∧ w2.heap.size = gq := ⟨_, _, rfl, rfl⟩
  have hbq : Below w2.heap.size w2 W4 := by rw [← hW4]; exact (Below.refl _ _).alloc (Nat.le_refl _) _
  have HRQ := Lib.hid (show Row W4 gq (List.replicate (D + 1) 0) by rw [← hW4, ← hgq]; exact Row.made _ _)
  have HFQ := Lib.hid (show Fresh W4 w.heap.size (some ⟨gq, 0, none⟩) (D + 1) by rw [← hW4, ← hgq]; exact (Fresh.made w2 (D + 1)).since HB.out.size)
  have HGQ := Lib.hid (show gv < gq by rw [← hgq]; exact HRV.out.lt)
  rw [hW4, hgq]
  replace HR1 := Lib.hid (HR1.out.stay hbq)
  replace HRV := Lib.hid (HRV.out.stay hbq)
  replace HB := Lib.hid (HB.out.trans (hbq.mono HB.out.size))
  clear hW4 hgq hbq ex H1 H2 HS1 HS2 hlz hmk
  have HV0 := Lib.hid (show val (vs0.take (lb + 2)) = val ys * 2 ^ s by
    have h := HVL.out.2
    have h3 := val_split vs0 (lb + 2) (by rw [HVL.out.1]; omega)
    have h4 := HST.out.2.1
    rcases Nat.eq_zero_or_pos (val (vs0.drop (lb + 2))) with h0 | h0
    · rw [h0, Nat.mul_zero, Nat.add_zero] at h3; rw [← h3, h]
    · have h5 := Nat.mul_le_mul_left (W64 ^ (lb + 2)) (show 1 ≤ val (vs0.drop (lb + 2)) from h0)
      omega)
  have HRV2 := Lib.hid (HRV.out.take (lb + 2))
  obtain ⟨vs, hvs⟩ : ∃ l, vs0.take (lb + 2) = l := ⟨_, rfl⟩
  have HVS := Lib.hid (show vs.length = lb + 2 by rw [← hvs, List.length_take, HVL.out.1]; omega)
  rw [hvs] at HV0 HRV2
  clear hvs HRV HVL
  obtain ⟨n, hn⟩ : ∃ n : Nat, lb + 2 = n := ⟨_, rfl⟩
  have en : (lb : Int) + 2 = (n : Int) := by omega
  rw [en, hn]
  have nI : (n : Int) ≤ 549755813888 := by omega
  have nI2 : (2 : Int) ≤ (n : Int) := by omega
  have xI : (n : Int) ≤ (xs.length : Int) := by omega
  have HN := Lib.hid hn
  clear en hn lbI rD
  obtain ⟨V, hV⟩ : ∃ V, val ys * 2 ^ s = V := ⟨_, rfl⟩
  obtain ⟨M, hM⟩ : ∃ M, val xs * 2 ^ s = M := ⟨_, rfl⟩
  have HUM := Lib.hid (show us0.length = xs.length + 1 ∧ val us0 = M by rw [← hM]; exact HUL.out)
  have HST2 := Lib.hid HST.out
  rw [hV] at HV0 HST2
  rw [hM] at HST2
  have HVE := Lib.hid (And.intro hV hM)
  clear hV hM HUL HST
  go_wp2_with fail
  go_loopw [11] (fun t11 wr => ∃ (j : Nat) (us os : List Nat), j ≤ D + 1 ∧ t11 = .int .i64 ((j : Int) - 1) ∧ Hid (DMem w wr gu gv gq xs.length D n vs us os) ∧ Hid (DSum V M j us os)) (fun t11 _ => (intOf t11 + 1).toNat)
  case atStart =>
    have hdrop : val (us0.drop (D + 1)) < V := by
      have h3 := val_split us0 (D + 1) (by rw [HUM.out.1, HL1.out.1]; omega)
      rw [HUM.out.2] at h3
      exact Nat.lt_of_mul_lt_mul_left (a := W64 ^ (D + 1)) (by have := HST2.out.2.2.2.2; omega)
    exact ⟨D + 1, us0, List.replicate (D + 1) 0, by omega, by simp, Lib.hid ⟨HR1.out, HUM.out.1, HRQ.out, by simp, HFQ.out, HB.out, HRV2.out, by rw [HVS.out, HN.out], HGG.out.1, HGG.out.2, HGQ.out⟩, Lib.hid ⟨hdrop, by
      rw [List.drop_of_length_le (by simp), HUM.out.2]; simp⟩⟩
  case round =>
    clear HR1 HUM HRQ HFQ HB HRV2
    obtain ⟨j, us, os, hj, rfl, HD, HS⟩ := hrel
    rcases j with _ | j
    · have HQ := Lib.hid (show val os = val xs / val ys ∧ val us / 2 ^ s = val xs % val ys by
        have h3 := HS.out.sum
        have h4 := HS.out.less
        have h6 := HVE.out
        rw [List.drop_zero] at h3 h4
        rw [Nat.pow_zero, Nat.mul_one] at h3
        have h5 := div_moved (val xs) (val ys) s (by have := HST2.out.2.2.2.1; omega)
        rw [h6.1, h6.2] at h5
        have hV0 : 0 < V := by omega
        rw [← h5.1, ← h5.2, h3, Nat.mul_comm (val os), Nat.add_mul_div_left _ _ hV0, Nat.div_eq_of_lt h4, Nat.zero_add, Nat.add_mul_mod_self_left, Nat.mod_eq_of_lt h4]
        exact ⟨rfl, rfl⟩)
      have HFIN := Lib.hid (show val (us.take n) = val us ∧ us.getD n 0 = 0 ∧ us.length = xs.length + 1 by
        have h1 := HS.out.less
        rw [List.drop_zero] at h1
        exact ⟨(top_none (k := n) (by rw [HD.out.lu]; have := HL1.out.1; have := HN.out; omega) (Nat.lt_trans h1 (by rw [← HN.out]; exact HST2.out.2.1))).1, (top_none (k := n) (by rw [HD.out.lu]; have := HL1.out.1; have := HN.out; omega) (Nat.lt_trans h1 (by rw [← HN.out]; exact HST2.out.2.1))).2, HD.out.lu⟩)
      have hmk := make_limbs n (by omega)
      go_upto_region 14 with (fail)
      obtain ⟨W5, gr, hW5, hgr⟩ : ∃ W g, wr.alloc (.cells (madeCells #[.int .u64 0] n) 53) = W ∧ wr.heap.size = g := ⟨_, _, rfl, rfl⟩
      have hb5 : Below wr.heap.size wr W5 := by rw [← hW5]; exact (Below.refl _ _).alloc (Nat.le_refl _) _
      have HRR := Lib.hid (show Row W5 gr (List.replicate n 0) by rw [← hW5, ← hgr]; exact Row.made _ _)
      have HFR := Lib.hid (show Fresh W5 gr (some ⟨gr, 0, none⟩) n by rw [← hW5, ← hgr]; exact Fresh.made wr n)
      have HGR := Lib.hid (show gq < gr by rw [← hgr]; exact HD.out.ro.lt)
      rw [hW5, hgr]
      replace HD := Lib.hid (HD.out.stay hb5)
      clear hW5 hgr hb5 hmk
      have HSS := Lib.hid (show s < 64 from HST2.out.1)
      go_wp2_with fail
      go_loopw [109] (fun t109 w3 => ∃ (k : Nat) (rs : List Nat), k ≤ n ∧ t109 = .int .i64 (k : Int) ∧ Hid (rs.length = n) ∧ Hid (Row w3 gr rs) ∧ Hid (W5.grownBy w3 (some gr)) ∧ Hid (Fresh w3 gr (some ⟨gr, 0, none⟩) n) ∧ Hid (val (rs.take k) * 2 ^ s + us.getD 0 0 % 2 ^ s = val (us.take k) + W64 ^ k * (us.getD k 0 % 2 ^ s))) (fun t109 _ => n - (intOf t109).toNat)
      case atStart => exact ⟨0, List.replicate n 0, by omega, rfl, Lib.hid (by simp), HRR, Lib.hid ⟨rfl, rfl, rfl, Nat.le_refl _, fun _ _ _ => rfl⟩, HFR, Lib.hid (by simp)⟩
      case round =>
        clear HRR HFR
        obtain ⟨k, rs, hk, rfl, HRL, HRR, HG3, HFR, HV⟩ := hrel
        by_cases hkn : k < n
        · have hru := HD.out.ru.grew HG3.out (show gu ≠ gr by have := HGR.out; have := HD.out.ne1; have := HD.out.ne2; omega)
          obtain ⟨x, hx⟩ : ∃ x, us.getD k 0 = x := ⟨_, rfl⟩
          obtain ⟨y, hy⟩ : ∃ x, us.getD (k + 1) 0 = x := ⟨_, rfl⟩
          obtain ⟨k1, t63, xd, y2, yd, d, hk1, ek1, et, ex, ey2, eyd, ed, hdW, hstep⟩ := rest_limb (k := k) (x := x) (y := y) (by rw [← hx]; exact hru.small.getD k) HSS.out (show k ≤ 549755813888 by omega)
          have hcx := hru.cell (k := k) (by rw [HFIN.out.2.2]; omega)
          have hcy := hru.cell (k := k + 1) (by rw [HFIN.out.2.2]; omega)
          rw [hx] at hcx
          rw [hy, hk1] at hcy
          have r0 := later_cell hcx
          have r1 := later_cell hcy
          have kI : (k : Int) < (n : Int) := by omega
          have k1I : (k1 : Int) < (xs.length : Int) + 1 := by omega
          have kI2 : (k : Int) < (xs.length : Int) + 1 := by omega
          have sI : (s : Int) < 64 := by have := HSS.out; omega
          have HXY := Lib.hid (And.intro hx (And.intro hy hk1))
          have HDS := Lib.hid (And.intro hdW hstep)
          have hcr := HRR.out.cell (k := k) (by rw [HRL.out]; exact hkn)
          have hfr := HRR.out.free k
          clear hx hy hk1 hstep hdW hcx hcy
          go_upto_region 17 with (fail)
          refine wp_region_stages (fun w' => ∃ δ : Later Nix wr, w' = δ.world) [(false, 0), (false, 1), (false, 2), (false, 3), (false, 4), (false, 5), (false, 6), (false, 7), (false, 8), (false, 9), (false, 10), (false, 11), (false, 12), (false, 13), (false, 14), (false, 15), (false, 16), (false, 17), (false, 18)] 19 [.reads [_, _, _, _, _, _, _, _, _, _, _, _, _, _, _, _, _, _, _]] [_] (by kernel_rfl) (by kernel_rfl) rfl rfl ?_ ?_
          · exact ⟨⟨_, nix_drawn wr⟩, rfl⟩
          refine wpStages_reads ?_
          repeat (go_big_quiet_step (fail))
          refine wpQuiet_nil ?_
          refine wpStages_nil ?_
          have HSTEP := Lib.hid (show val ((rs.set k d).take (k + 1)) * 2 ^ s + us.getD 0 0 % 2 ^ s = val (us.take (k + 1)) + W64 ^ (k + 1) * (us.getD (k + 1) 0 % 2 ^ s) by
            have h1 := HXY.out
            rw [val_take_set rs k d (by rw [HRL.out]; exact hkn), val_take_step us, h1.1, h1.2.1, Nat.pow_succ]
            have h2 := HV.out
            rw [h1.1] at h2
            exact rest_join h2 HDS.out.2)
          have HR2 := Lib.hid (show Row ((wr.drewN 1).setCell ⟨gr, k, none⟩ (.int .u64 (d : Int))) gr (rs.set k d) from (HRR.out.drewN 1).set (by rw [HRL.out]; exact hkn) HDS.out.1)
          have HF4 := Lib.hid (show Fresh ((wr.drewN 1).setCell ⟨gr, k, none⟩ (.int .u64 (d : Int))) gr (some ⟨gr, 0, none⟩) n from (HFR.out.below (below_drewN (Below.refl _ _) 1)).set gr k _)
          have HG4 := Lib.hid (grownBy_trans HG3.out (grownBy_trans (drew_grown wr 1 (some gr)) (only_set (wr.drewN 1) ⟨gr, k, none⟩ (.int .u64 (d : Int)))))
          clear ek1 et ex ey2 eyd ed r0 r1 hru
          go_wp2_with fail
          exact ⟨⟨k + 1, _, by omega, by go_num, Lib.hid (by rw [List.length_set, HRL.out]), HR2, HG4, HF4, HSTEP⟩, by simp [intOf]; omega⟩
        · obtain rfl : k = n := by omega
          have HR := Lib.hid (show val rs = val us / 2 ^ s by
            have h := HV.out
            rw [List.take_of_length_le (l := rs) (by rw [HRL.out]; omega), HFIN.out.1, HFIN.out.2.1, Nat.zero_mod, Nat.mul_zero, Nat.add_zero] at h
            have h2 : us.getD 0 0 % 2 ^ s < 2 ^ s := Nat.mod_lt _ (Nat.pow_pos (by omega))
            rw [← h, Nat.mul_comm, Nat.mul_add_div (Nat.pow_pos (by omega)), Nat.div_eq_of_lt h2]; rfl)
          have kI : ¬ (k : Int) < (k : Int) := by omega
          go_wp2_with fail
          go_ret2
          have e5 := HGR.out
          have hq : Part wr w.heap.size (.slice (some ⟨gq, 0, none⟩) (D + 1) (D + 1)) (val xs / val ys) := by
            have h := Part.row (HD.out.ro.grew HG3.out (by omega)) (base := w.heap.size) (by rw [HD.out.lo]; exact HD.out.fq.grown HG3.out (fun _ e => by injection e with e; subst e; exact Nat.ne_of_lt e5)) (by rw [HD.out.lo]; omega)
            rw [HD.out.lo, HQ.out.1] at h
            exact h
          have hr : Part wr gr (.slice (some ⟨gr, 0, none⟩) k k) (val xs % val ys) := by
            have h := Part.row HRR.out (base := gr) (by rw [HRL.out]; exact HFR.out) (by rw [HRL.out]; omega)
            rw [HRL.out, HR.out, HQ.out.2] at h
            exact h
          have e6 := HD.out.ne1
          have e7 := HD.out.ne2
          have e8 := HD.out.base
          refine ⟨_, _, rfl, hq, hr.since (by omega), fun a b h1 h2 => by cases h1; cases h2; show gq ≠ gr; omega, below_grown HD.out.bel HD.out.bel.size HG3.out (by omega)⟩
    · have e1 : ((j + 1 : Nat) : Int) - 1 = (j : Int) := by omega
      rw [e1]
      have hul := HD.out.lu
      have hla := HL1.out.1
      have hVS := HVS.out
      have hcu2 := HD.out.ru.cell (k := j + (lb + 2)) (by omega)
      have hcu1 := HD.out.ru.cell (k := j + (lb + 1)) (by omega)
      have hcu0 := HD.out.ru.cell (k := j + lb) (by omega)
      have hcv1 := HD.out.rv.cell (k := lb + 1) (by have := HVS.out; omega)
      have hcv0 := HD.out.rv.cell (k := lb) (by have := HVS.out; omega)
      have hW2 := HD.out.ru.small.getD (j + (lb + 2))
      have hW1 := HD.out.ru.small.getD (j + (lb + 1))
      have hW0 := HD.out.ru.small.getD (j + lb)
      have hX1 := HD.out.rv.small.getD (lb + 1)
      have hX0 := HD.out.rv.small.getD lb
      have HSM := Lib.hid HD.out.ru.small
      have HUL := Lib.hid (show j + (lb + 3) ≤ us.length by omega)
      have HJO := Lib.hid (show j < os.length by have := HD.out.lo; omega)
      have HVV := Lib.hid (show 0 < V ∧ V < W64 ^ (lb + 2) from ⟨by have := HS.out.less; omega, HST2.out.2.1⟩)
      obtain ⟨u2, hu2⟩ : ∃ u, us.getD (j + (lb + 2)) 0 = u := ⟨_, rfl⟩
      obtain ⟨u1, hu1⟩ : ∃ u, us.getD (j + (lb + 1)) 0 = u := ⟨_, rfl⟩
      obtain ⟨u0, hu0⟩ : ∃ u, us.getD (j + lb) 0 = u := ⟨_, rfl⟩
      obtain ⟨v1, hv1⟩ : ∃ u, vs.getD (lb + 1) 0 = u := ⟨_, rfl⟩
      obtain ⟨v0, hv0⟩ : ∃ u, vs.getD lb 0 = u := ⟨_, rfl⟩
      rw [hu2] at hcu2 hW2
      rw [hu1] at hcu1 hW1
      rw [hu0] at hcu0 hW0
      rw [hv1] at hcv1 hX1
      rw [hv0] at hcv0 hX0
      have HVP := Lib.hid (show 0 < v1 by
        have h := top_pos (n := lb + 1) HD.out.rv.small (by have := HVS.out; omega) (by rw [HV0.out]; exact HST2.out.2.2.1)
        rw [hv1] at h; omega)
      have r0 := later_cell hcu2
      have r1 := later_cell hcu1
      have r2 := later_cell hcu0
      have r3 := later_cell hcv1
      have r4 := later_cell hcv0
      have HU := Lib.hid (And.intro hu2 (And.intro hu1 (And.intro hu0 (And.intro hv1 hv0))))
      obtain ⟨m2, m1, m0, n1, hm2, hm1, hm0, hn1, jI1, i2, i1, i0, k1, k0, jI4, hw⟩ := long_index (j := j) HN.out HL1.out.1 hj HL1.out.2
      rw [hm2] at r0
      rw [hm1] at r1
      rw [hm0] at r2
      rw [hn1] at r3
      have HW := Lib.hid hw
      have HI2 := Lib.hid i2
      have HM := Lib.hid (And.intro hm2 (And.intro hm1 (And.intro hm0 hn1)))
      clear hul hla hu2 hu1 hu0 hv1 hv0 e1 hcu2 hcu1 hcu0 hcv1 hcv0 hm2 hm1 hm0 hn1 hj nI2 xI hDI hw
      go_upto_region 8 with (fail)
      obtain ⟨⟨s2, s2'⟩, ⟨s1, s1'⟩, ⟨s0, s0'⟩, ⟨y1, y1'⟩, y0, y0'⟩ := HW.out

      refine wp_region_stages (fun w' => ∃ δ : Later Nix wr, w' = δ.world) [(false, 0), (false, 1), (false, 2), (false, 3), (false, 4), (false, 5), (false, 6), (false, 7), (false, 8), (false, 9), (false, 10), (false, 11), (false, 12), (false, 13), (false, 14), (false, 15), (false, 16), (false, 17), (false, 18), (false, 19), (false, 20), (false, 21), (false, 22), (false, 23), (false, 24), (false, 25), (false, 26), (false, 27), (false, 28), (false, 29), (false, 30), (false, 31), (true, 32)] 33 [.reads [_, _, _, _, _, _, _, _, _, _, _, _, _, _, _, _, _, _, _, _, _, _, _, _, _, _, _, _, _, _, _, _], .loud _] [_, _] (by kernel_rfl) (by kernel_rfl) rfl rfl ?_ ?_
      · exact ⟨⟨_, nix_drawn wr⟩, rfl⟩
      refine wpStages_reads ?_
      repeat (go_big_quiet_step (fail))
      refine wpQuiet_nil ?_
      refine wpStages_loud rfl ?_
      intro K hK
      go_big_op
      clear s2 s2' s1 s1' s0 s0' y1 y1' y0 y0' r0 r1 r2 r3 r4 i2 i1 i0 k1 k0
      refine (divide_guess _ _ _ _ _ _ hW2 hW1 hW0 hX1 hX0 HVP.out).mono ?_
      rintro e w1 ⟨g, rfl, hG, q1, rfl⟩
      obtain ⟨W1, hW1⟩ : ∃ W, (wr.drewN 1).drewN q1 = W := ⟨_, rfl⟩
      have hb : Below wr.heap.size wr W1 := by rw [← hW1]; exact below_drewN (below_drewN (Below.refl _ _) 1) q1
      rw [hW1]
      refine hK _ _ ⟨⟨_, Ext.of_nix hb⟩, rfl⟩ ?_
      clear hK K hW1
      replace HD := Lib.hid (HD.out.stay hb)
      clear hb
      have hgW := hG.lt
      have HG := Lib.hid hG
      have hcq := HD.out.ro.cell (k := j) (by rw [HD.out.lo]; omega)
      have hfq := HD.out.ro.free j
      clear hG
      refine wpStages_nil ?_
      go_wp2_with fail
      obtain ⟨W2, hWe⟩ : ∃ W, W1.setCell ⟨gq, j, none⟩ (.int .u64 (g : Int)) = W := ⟨_, rfl⟩
      rw [hWe]
      replace HD := Lib.hid (show DMem w W2 gu gv gq xs.length D n vs us (os.set j g) by rw [← hWe]; exact HD.out.setq (by omega) hgW)
      clear hcq hfq hWe
      have hcq := later_cell (HD.out.ro.cell (k := j) (by rw [HD.out.lo]; omega))
      rw [getD_set_at (by rw [← List.length_set (i := j) (a := g), HD.out.lo]; omega)] at hcq
      have jI2 : (j : Int) ≤ (xs.length : Int) + 1 := by have := HL1.out.1; omega
      have jI3 : ¬ (xs.length + 1 = j) := by have := HL1.out.1; omega
      refine wp_region_stages (fun w' => ∃ δ : Later Nix W2, w' = δ.world) [(false, 0), (false, 1), (false, 2), (false, 3), (false, 4), (false, 5), (false, 6), (false, 7)] 8 [.reads [_, _, _, _, _, _, _, _]] [_, _] (by kernel_rfl) (by kernel_rfl) rfl rfl ?_ ?_
      · exact ⟨⟨_, nix_drawn W2⟩, rfl⟩
      refine wpStages_reads ?_
      repeat (go_big_quiet_step (fail))
      refine wpQuiet_nil ?_
      refine wpStages_nil ?_
      go_wp2_with fail
      have HTK := Lib.hid (divide_take gu j (xs.length + 1 - j) (xs.length + 1 - j) (n + 1) (lb + 1) g us (some ⟨gv, 0, none⟩) vs (W2.drewN 1) (HD.out.ru.drewN 1) (HD.out.rv.drewN 1).lim' (fun ad e => by injection e with e; subst e; exact (Nat.ne_of_lt HD.out.ne1).symm) HVS.out (by rw [HD.out.lu]; have := HL1.out.1; omega) (by have := HL1.out.1; omega) (by rw [HD.out.lu]; have := HL1.out.2; omega) hgW)
      have HN1 := Lib.hid (show lb + 1 + 1 = n from HN.out)
      rw [HN1.out] at HTK
      refine HTK.out.mono ?_
      rintro e w1 ⟨b, us1, rfl, hb1, hrow1, hl1, htk, hdr, hv, hgr⟩
      replace HD := Lib.hid (HD.out.grown (grownBy_trans (drew_grown W2 1 _) hgr) hrow1 hl1)
      have HCASE := Lib.hid (long_taken (q := g) HSM.out HD.out.rv.small HVS.out HV0.out HVV.out.1 HVV.out.2 HUL.out HS.out HU.out HG.out hl1 htk hdr hv hb1)
      clear HTK hb1 hrow1 hl1 htk hdr hv hgr hcq jI2 jI3
      rcases HCASE.out with ⟨rfl, hgiv⟩ | ⟨rfl, hgiv⟩
      · have HGV := Lib.hid (long_given HSM.out HVV.out.1 HVV.out.2 HUL.out HJO.out HS.out hgiv)
        clear hgiv
        go_wp2_with fail
        exact ⟨⟨j, us1, _, by omega, by go_num, HD, HGV⟩, by simp [intOf]⟩
      · have HGI := Lib.hid hgiv
        clear hgiv
        go_wp2_with fail
        obtain ⟨wo, hwo⟩ : ∃ wo : World, wo = w1 := ⟨_, rfl⟩
        subst hwo
        go_loopg [] g (fun gk wr => ∃ us2 : List Nat, Hid (DMem w wr gu gv gq xs.length D n vs us2 (os.set j gk)) ∧ Hid (Giving us us2 j lb V gk) ∧ Hid (gk < W64))
        case atStart => exact ⟨us1, HD, HGI, Lib.hid hgW⟩
        case round =>
          clear HD HGI HCASE
          obtain ⟨us2, HD, HGI, HGW⟩ := hrel
          have jI2 : (j : Int) ≤ (xs.length : Int) + 1 := by have := HL1.out.1; omega
          have jI3 : ¬ (xs.length + 1 = j) := by have := HL1.out.1; omega
          go_wp2_with fail
          have HTK := Lib.hid (divide_give gu j (xs.length + 1 - j) (xs.length + 1 - j) (n + 1) (lb + 1) us2 (some ⟨gv, 0, none⟩) vs wr HD.out.ru HD.out.rv.lim' (fun ad e => by injection e with e; subst e; exact (Nat.ne_of_lt HD.out.ne1).symm) HVS.out (by rw [HD.out.lu]; have := HL1.out.1; omega) (by have := HL1.out.1; omega) (by rw [HD.out.lu]; have := HL1.out.2; omega))
          rw [HN1.out] at HTK
          refine HTK.out.mono ?_
          rintro e w2 ⟨v, c, us3, rfl, hc1, hrow1, hl1, htk, hdr, hv, hgr⟩
          have HSM2 := Lib.hid HD.out.ru.small
          replace HD := Lib.hid (HD.out.grown hgr hrow1 hl1)
          rw [HV0.out] at hv
          have hstep := HGI.out.step HSM2.out HD.out.ru.small HUL.out HVV.out.2 hl1 htk hdr hv hc1
          have hq1 := HGI.out.pos HSM2.out HUL.out
          have HSTEP := Lib.hid hstep
          obtain ⟨q, rfl⟩ : ∃ q, gk = q + 1 := ⟨gk - 1, by omega⟩
          rw [Nat.add_sub_cancel] at HSTEP
          have hcq := HD.out.ro.cell (k := j) (by rw [HD.out.lo]; omega)
          have hfq := HD.out.ro.free j
          rw [getD_set_at HJO.out, Int.natCast_add, Int.natCast_one] at hcq
          have hqW := HGW.out
          have HQ := Lib.hid (HD.out.setq (j := j) (g := q) (by omega) (by omega))
          rw [List.set_set] at HQ
          clear HTK hc1 hrow1 hl1 htk hdr hv hgr hstep hq1 jI2 jI3
          have hqI : (q : Int) + 1 ≤ 18446744073709551615 := by have := lt_W64 hqW; omega
          clear hqW
          go_upto_region 12 with (fail)
          obtain ⟨w3, hw3⟩ : ∃ W, w2.setCell ⟨gq, j, none⟩ (.int .u64 (q : Int)) = W := ⟨_, rfl⟩
          rw [hw3] at HQ ⊢
          clear hw3 HD hqI hcq hfq
          have hcx := HQ.out.ru.cell (k := j + (lb + 2)) (by rw [HQ.out.lu]; have := HL1.out.1; omega)
          obtain ⟨x, hx⟩ : ∃ x, us3.getD (j + (lb + 2)) 0 = x := ⟨_, rfl⟩
          rw [hx] at hcx HSTEP
          rw [HN.out] at hcx
          clear hx
          have i2 : (j : Int) + (n : Int) < (xs.length : Int) + 1 := by have := HL1.out.1; have := HN.out; omega
          rcases HSTEP.out with ⟨hx, hgiv⟩ | ⟨hx, hgiv⟩
          · have hx0 : ((x : Int) == 0) = false := beq_eq_false_iff_ne.2 (by omega)
            have HGI2 := Lib.hid hgiv
            clear hgiv hx
            go_wp2_with fail
            go_roundg q
            case measure => omega
            case rel => exact ⟨us3, HQ, HGI2, Lib.hid (Nat.lt_of_succ_lt HGW.out)⟩
          · subst hx
            have HGV := Lib.hid (long_given HSM.out HVV.out.1 HVV.out.2 HUL.out HJO.out HS.out hgiv)
            clear hgiv
            go_wp2_with fail
            exact ⟨⟨j, us3, _, by omega, by go_num, HQ, HGV⟩, by simp [intOf]⟩
end Go.Proofs.Ytonbhpadoplpkaa
