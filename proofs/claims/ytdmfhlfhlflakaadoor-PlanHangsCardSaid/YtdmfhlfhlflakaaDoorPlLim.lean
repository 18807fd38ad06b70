import Derived.Deep.RegionHeld3
import Derived.Test.YtdmfhlfhlflakaaDoorPlLim0
namespace Go.Proofs.YtdmfhlfhlflakaaDoor
open Go.RowKit
set_option linter.unusedVariables false
set_option linter.unusedSimpArgs false

theorem wv_inj {n h l : Nat} (e : wv n = .agg #[.int .u64 (h : Int), .int .u64 (l : Int)]) : n / 18446744073709551616 = h ∧ n % 18446744073709551616 = l := by
  unfold wv at e
  simp only [Array.mk.injEq, List.cons.injEq, Value.agg.injEq, Value.int.injEq, true_and, and_true] at e
  omega
theorem slw_lit (W : World) (ns : List Nat) (cs : Array Value) (n : Nat) (hn : ns.length = n) (hn' : n ≤ maxLen) (he : ns.flatMap wcells = cs.toList) : SlW (W.alloc (.cells cs 35)) (.slice (some ⟨W.heap.size, 0, none⟩) n n) ns := by
  subst hn
  refine ⟨?_, some ⟨W.heap.size, 0, none⟩, ns.length, rfl, Nat.le_refl _, hn', fun h => (by cases h), fun _ => ⟨W.heap.size, 0, rfl, by simp, fun i u hi => ?_⟩⟩
  · clear he
    induction ns with
    | nil => rfl
    | cons a l ih => rw [List.flatMap_cons, List.length_append, ih (by simp at hn'; omega), wcells_len, List.length_cons]; omega
  · rw [Nat.zero_add, box_cell (box_new W cs 35), ← Array.getElem?_toList, ← he]
    exact hi
set_option maxRecDepth 100000 in
set_option maxHeartbeats 1000000 in
theorem limit_yes (S : Shp) (c : Cov) (ev sv wv' : Value) (w : World) (h : ShR w ev sv S) (hw : SlI .i64 w wv' c.ws) (hO : One w) (hE : boundE S c = 0) :
    Calls Tryd.prog 29 #[shpV S.many ev sv, covV wv' c.of] w fun e w' => e = .returned (wres (prodTo (limL S c) 5)) ∧ Below w.heap.size w w' := by
  have hS := BndW.start (w := w) (m := S.many) (ev := ev) (sv := sv) (wv := wv') (o := c.of)
  have hB := Bound_any S c ev sv wv' _ (h.later hS.bel) (SlI.later hw hS.bel) (hO.later hS.bel)
  obtain ⟨b1, b2, -⟩ := boundN_lt hE
  obtain ⟨bh, bl, hbv, -⟩ := wv_open (boundN S c) b2
  have hV : boundV S c = .tuple #[.agg #[.int .u64 (bh : Int), .int .u64 (bl : Int)], .int .i64 0] := by
    unfold boundV; rw [hE, hbv]
  rw [hV] at hB
  obtain ⟨hok, -, -⟩ := boundE_zero hE
  have hlim := limL_ok hE
  have hmost := lim_most hok
  obtain ⟨q1, q2, q3, q4, -⟩ := shpB_yes hok
  have hsz := sizes_le hok
  have hpr : ∀ (v : Value) (W : World), SlW W v (limL S c) → Calls Tryd.prog 50 #[v] W fun e w' => e = .returned (wres (prodTo (limL S c) 5)) ∧ Below W.heap.size W w' := fun v W hv => product_any v (limL S c) W hv hlim.1 hlim.2
  obtain ⟨ph, pl, pe, hpv⟩ := wres_open (prodTo (limL S c) 5)
  rw [hpv] at hpr ⊢
  have HB := Lib.hid hB
  have HS := Lib.hid hS
  have HSh := Lib.hid h
  have HPr := Lib.hid hpr
  have HL := Lib.hid hbv
  obtain ⟨i0, hi, hz0, hz1, hz2⟩ := info_parts info_int
  obtain ⟨m, ls, zs⟩ := S
  obtain ⟨ws, o⟩ := c
  simp only at hmost q1 q2 q3 q4 hsz
  obtain ⟨most, hmo⟩ : ∃ most, maxTo (1 :: zs) (zs.length + 1) = most := ⟨_, rfl⟩
  rw [hmo] at hmost
  have hwf : ∀ x ∈ (1 :: zs : List Int), (Lit.int .i64 x).wf = true := by
    intro x hx
    rcases List.mem_cons.1 hx with rfl | hx
    · decide
    · exact h.sizes.2 x hx
  have HM := Lib.hid (And.intro hmo hwf)
  obtain ⟨ae, ce, rfl, -⟩ := h.edges.open
  obtain ⟨az, cz, rfl, -⟩ := h.sizes.open
  obtain ⟨aw, cw, rfl, -⟩ := hw.open
  have hzl : zs.length ≤ 40 := by omega
  clear q4
  simp only at HB HS HSh ⊢
  clear h hw hB hS hV hE hO hbv b1 b2 hok hlim hsz hpr hpv hmo hwf
  go_enter Tryd.func29, Tryd.ntmps29
  go_wp2_with fail
  refine HB.out.mono ?_
  rintro e w1 ⟨rfl, hb1⟩
  have H1 := Lib.hid (HS.out.later hb1)
  obtain ⟨c0, c1, c2, -, -⟩ := H1.out.cells
  have l1 := H1.out.res.2.2.2.2
  have l2 : w.heap.size < w1.heap.size := by omega
  clear hb1
  have HSl : Hid (SlS 1 (w1.alloc (.cells #[.int .u64 (bh : Int), .int .u64 (bl : Int)] 35)) (.slice az zs.length cz) zs.length (zs.map (Value.int .i64))) := Lib.hid (by
    have := (HSh.out.sizes.later (later_trans H1.out.bel (later_alloc w1 (.cells #[.int .u64 (bh : Int), .int .u64 (bl : Int)] 35)))).1.slS
    rw [List.length_map] at this
    exact this)
  have HO1 := Lib.hid (ownsRow_one (w1.alloc (.cells #[.int .u64 (bh : Int), .int .u64 (bl : Int)] 35)) (.int .i64 1) 3)
  rw [World.size_alloc] at HO1
  go_wp2_with (at_builtin; refine wpList_append_sl _ rfl (.tmp 20) (.tmp 22) 25 rfl (w1.heap.size + 1) 3 i0 (.int .i64 0) 1 8 Tryd.underlying25 hi hz0 hz1 hz2 rfl (by decide) _ _ _ rfl HO1.out _ _ _ rfl (SlS.later HSl.out (later_alloc _ _)) (ints_oneCell _ _) (by unfold maxLen; omega) (by omega) (by simp) ?_; intro v6 w6 hown6 hgrow6; obtain ⟨a6, c6, rfl⟩ := owns_shape2 hown6)
  have hb6 : Below (w1.heap.size + 1) (w1.alloc (.cells #[.int .u64 (bh : Int), .int .u64 (bl : Int)] 35)) w6 :=
    ((Below.refl (w1.heap.size + 1) (w1.alloc (.cells #[.int .u64 (bh : Int), .int .u64 (bl : Int)] 35))).alloc (by simp) (.cells #[.int .i64 1] 3)).grown hgrow6 (by simp) (fun k e => by cases e; exact Nat.le_refl _)
  have hI6 : BndW w m (.slice ae ls.length ce) (.slice az zs.length cz) (.slice aw ws.length cw) o w6 := by
    have hIa := H1.out.later (later_alloc w1 (.cells #[.int .u64 (bh : Int), .int .u64 (bl : Int)] 35))
    exact ⟨hIa.bel.trans (hb6.mono (by omega)), (hb6.block _ (by omega)).trans hIa.bs, (hb6.block _ (by omega)).trans hIa.bc, (hb6.block _ (by omega)).trans hIa.br⟩
  have hX6 := (hb6.block w1.heap.size (by omega)).trans (box_new w1 _ _)
  have hMx := Max_any (.slice a6 (1 + zs.length) c6) (1 :: zs) w6 (SlI.of_owns hown6 HM.out.2) (by simp)
  rw [show (1 :: zs).length = zs.length + 1 from rfl, HM.out.1] at hMx
  have H6 := Lib.hid (And.intro hI6 hX6)
  have HMx := Lib.hid hMx
  obtain ⟨c0, c1, c2, -, -⟩ := hI6.cells
  obtain ⟨x0, x1, -, -, lx⟩ := two_of hX6
  have l6 := hI6.res.2.2.2.2
  have HXl := Lib.hid l1
  clear hown6 hgrow6 hb6 hI6 hX6 hMx HSl HO1 l1 l2
  refine HMx.out.mono ?_
  rintro e w7 ⟨rfl, rfl⟩
  obtain ⟨X, hX⟩ : ∃ X, w1.heap.size = X := ⟨_, rfl⟩
  rw [hX] at H6 x0 x1 lx HXl
  have hlg0 := lg_le most (by omega)
  obtain ⟨lm, hlm⟩ : ∃ lm : Nat, lg most = lm := ⟨_, rfl⟩
  rw [hlm] at hlg0
  have hLog := fun W => log_any most (by omega) (by omega) W
  rw [hlm] at hLog
  have g1 := fun W => of64_any 16 (by decide) (by decide) W
  have g2 := fun W => of64_any m (by omega) (by omega) W
  have g3 := fun W => of64_any (ls.length : Int) (by omega) (by omega) W
  have g4 := fun W => of64_any (1 + (lm : Int)) (by omega) (by omega) W
  obtain ⟨y1, z1, k1, -⟩ := wv_open (max (16 : Int) 1).toNat (by decide)
  obtain ⟨y2, z2, k2, -⟩ := wv_open (max m 1).toNat (by omega)
  obtain ⟨y3, z3, k3, -⟩ := wv_open (max (ls.length : Int) 1).toNat (by omega)
  obtain ⟨y4, z4, k4, -⟩ := wv_open (max (1 + (lm : Int)) 1).toNat (by omega)
  rw [k1] at g1
  rw [k2] at g2
  rw [k3] at g3
  rw [k4] at g4
  have HK := Lib.hid (And.intro k1 (And.intro k2 (And.intro k3 (And.intro k4 hlm))))
  have hwr : IntKind.i64.wrap (1 + (lm : Int)) = 1 + lm := wrap_i64 (by omega) (by omega)
  clear k1 k2 k3 k4 hlm
  have HKeep : Hid (∀ W, Below w7.heap.size w7 W → W.cell? ⟨w.heap.size, 0, none⟩ = some (.int .i64 m) ∧ W.cell? ⟨w.heap.size, 1, none⟩ = some (.slice ae ls.length ce) ∧ W.cell? ⟨X, 0, none⟩ = some (.int .u64 (bh : Int)) ∧ W.cell? ⟨X, 1, none⟩ = some (.int .u64 (bl : Int))) := Lib.hid (fun W hb => ⟨cell_next hb c0, cell_next hb c1, cell_next hb x0, cell_next hb x1⟩)
  have hSl : ∀ W : World, SlW (W.alloc (.cells #[.int .u64 (y1 : Int), .int .u64 (z1 : Int), .int .u64 (y2 : Int), .int .u64 (z2 : Int), .int .u64 (y3 : Int), .int .u64 (z3 : Int), .int .u64 (y4 : Int), .int .u64 (z4 : Int), .int .u64 (bh : Int), .int .u64 (bl : Int)] 35)) (.slice (some ⟨W.heap.size, 0, none⟩) 5 5) (limL ⟨m, ls, zs⟩ ⟨ws, o⟩) := fun W =>
    slw_lit W (limL ⟨m, ls, zs⟩ ⟨ws, o⟩) _ 5 rfl (by decide) (by
      have e4 : 1 + lg (maxTo (1 :: zs) (zs.length + 1)) = (max (1 + (lm : Int)) 1).toNat := by rw [HM.out.1, HK.out.2.2.2.2]; omega
      unfold limL
      simp only
      rw [e4]
      simp only [List.flatMap_cons, List.flatMap_nil, wcells]
      have i1 := wv_inj HK.out.1
      have i2 := wv_inj HK.out.2.1
      have i3 := wv_inj HK.out.2.2.1
      have i4 := wv_inj HK.out.2.2.2.1
      have i5 := wv_inj HL.out
      rw [i2.1, i2.2, i3.1, i3.2, i4.1, i4.2, i5.1, i5.2, ← i1.1, ← i1.2]
      rfl)
  have hE : Enters 64 := enters_of Tryd.func64 (by kernel_rfl) rfl
  unfold Enters at hE
  have HSl2 := Lib.hid hSl
  clear hSl
  have HKeepS : Hid (∀ W, Below w7.heap.size w7 W → ∀ u v, ((W.setCell ⟨w.heap.size + 1 + 1, 0, none⟩ u).setCell ⟨w.heap.size + 1 + 1, 1, none⟩ v).cell? ⟨w.heap.size, 0, none⟩ = some (.int .i64 m) ∧ ((W.setCell ⟨w.heap.size + 1 + 1, 0, none⟩ u).setCell ⟨w.heap.size + 1 + 1, 1, none⟩ v).cell? ⟨w.heap.size, 1, none⟩ = some (.slice ae ls.length ce) ∧ ((W.setCell ⟨w.heap.size + 1 + 1, 0, none⟩ u).setCell ⟨w.heap.size + 1 + 1, 1, none⟩ v).cell? ⟨X, 0, none⟩ = some (.int .u64 (bh : Int)) ∧ ((W.setCell ⟨w.heap.size + 1 + 1, 0, none⟩ u).setCell ⟨w.heap.size + 1 + 1, 1, none⟩ v).cell? ⟨X, 1, none⟩ = some (.int .u64 (bl : Int))) := Lib.hid (fun W hb u v => by
    have hx := HXl.out
    have h1 := box_other (i := 1) (b' := w.heap.size + 1 + 1) (box_other (i := 0) (b' := w.heap.size + 1 + 1) (H6.out.1.later hb).bs (by omega) u) (by omega) v
    have h2 := box_other (i := 1) (b' := w.heap.size + 1 + 1) (box_other (i := 0) (b' := w.heap.size + 1 + 1) (kept hb H6.out.2) (by omega) u) (by omega) v
    exact ⟨box_cell (i := 0) h1, box_cell (i := 1) h1, box_cell (i := 0) h2, box_cell (i := 1) h2⟩)
  go_wp2_with fail
  go_region_held3 (fun W => W.cell? ⟨w.heap.size, 0, none⟩ = some (.int .i64 m) ∧ W.cell? ⟨w.heap.size, 1, none⟩ = some (.slice ae ls.length ce) ∧ W.cell? ⟨X, 0, none⟩ = some (.int .u64 (bh : Int)) ∧ W.cell? ⟨X, 1, none⟩ = some (.int .u64 (bl : Int)))
    (first | exact HKeep.out _ (later_refl _) | exact HKeep.out _ (later_drew _) | exact HKeep.out _ bA | exact HKeep.out _ bB | exact HKeep.out _ bC | exact HKeep.out _ bD | exact HKeep.out _ (later_trans bD (later_alloc _ _)) | exact HKeep.out _ bP | exact HKeepS.out _ bP _ _ | assumption)
    (first
      | ((with_reducible refine (g1 _).mono ?_); rintro e wA ⟨rfl, hA⟩; have bA : Below w7.heap.size w7 wA := later_trans (later_drew _) hA)
      | ((with_reducible refine (g2 _).mono ?_); rintro e wB ⟨rfl, hB⟩; have bB : Below w7.heap.size w7 wB := later_trans bA hB)
      | ((with_reducible refine (g3 _).mono ?_); rintro e wC ⟨rfl, hC⟩; have bC : Below w7.heap.size w7 wC := later_trans bB hC)
      | ((with_reducible refine (hLog _).mono ?_); rintro e wL ⟨rfl, rfl⟩)
      | ((with_reducible refine (g4 _).mono ?_); rintro e wD ⟨rfl, hD⟩; have bD : Below w7.heap.size w7 wD := later_trans bC hD)
      | (go_at_call 50; refine (HPr.out _ _ (HSl2.out _)).mono ?_; rintro e wP ⟨rfl, hP⟩; have bP : Below w7.heap.size w7 wP := later_trans (later_trans bD (later_alloc _ _)) hP; obtain ⟨r0, r1, f0, f1, lr⟩ := (H6.out.1.later bP).res))
  go_wp2_with fail
  refine bodyPost_ret (v := .tuple #[.agg #[.int .u64 ph, .int .u64 pl], .int .i64 pe]) (by simp [results, Tryd.results29, go_sem, r0, r1]) rfl ?_
  exact ⟨rfl, (H6.out.1.later bP).done _ _⟩

/-- plan.Limit. -/
theorem Limit_any (S : Shp) (c : Cov) (ev sv wv' : Value) (w : World) (h : ShR w ev sv S) (hw : SlI .i64 w wv' c.ws) (hO : One w) :
    Calls Tryd.prog 29 #[shpV S.many ev sv, covV wv' c.of] w fun e w' => e = .returned (limitV S c) ∧ Below w.heap.size w w' := by
  unfold limitV
  by_cases hE : boundE S c = 0
  · rw [if_pos hE]
    exact limit_yes S c ev sv wv' w h hw hO hE
  · rw [if_neg hE]
    exact limit_no S c ev sv wv' w h hw hO hE
end Go.Proofs.YtdmfhlfhlflakaaDoor
