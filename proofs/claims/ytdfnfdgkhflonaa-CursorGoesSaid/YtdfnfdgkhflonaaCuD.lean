/-
  The cursor's moves that fail, walked; and seek.
-/
import Derived.Test.YtdfnfdgkhflonaaCuC
namespace Go.Proofs.Ytdfnfdgkhflonaa
open Go.RowKit
set_option linter.unusedVariables false

set_option maxRecDepth 100000 in
set_option maxHeartbeats 1000000 in
theorem up_none {w : World} {c N : Nat} {rv : Value} {st : Int} {kv bv lv : Value} {rs : List (Value × Int)} {key : Int} (h : CuS w c N rv st kv bv lv []) :
    Calls Try.prog 72 #[.pointer (some ⟨c, 0, none⟩), .int .u64 key] w fun e w' => e = .panicked (thrown 2) ∧ Below w.heap.size w w' := by
  obtain ⟨ra, cap, rfl⟩ := h.bare
  obtain ⟨b0, b1, b2, b3, b4, bf⟩ := h.cells
  have hO := fun W h => top_no c cap ra W h
  clear h bf
  go_enter Try.func72, Try.ntmps72
  go_wp2_with (go_at_call 71; refine (hO _ b0).mono ?_; rintro e w' ⟨rfl, rfl⟩)
  simp [bodyPost, thrown]
  first | exact Below.refl _ _ | exact later_drewN _ _

set_option maxRecDepth 100000 in
set_option maxHeartbeats 1000000 in
theorem next_none {w : World} {c N : Nat} {rv : Value} {st : Int} {kv bv lv : Value} {rs : List (Value × Int)} {key : Int} (h : CuS w c N rv st kv bv lv []) :
    Calls Try.prog 74 #[.pointer (some ⟨c, 0, none⟩), .int .u64 key] w fun e w' => e = .panicked (thrown 2) ∧ Below w.heap.size w w' := by
  obtain ⟨ra, cap, rfl⟩ := h.bare
  obtain ⟨b0, b1, b2, b3, b4, bf⟩ := h.cells
  have hO := fun W h => on_none c cap ra W h
  clear h bf
  go_enter Try.func74, Try.ntmps74
  go_wp2_with (go_at_call 107; refine (hO _ b0).mono ?_; rintro e w' ⟨rfl, rfl⟩)
  simp [bodyPost, thrown]
  first | exact Below.refl _ _ | exact later_drewN _ _

set_option maxRecDepth 100000 in
set_option maxHeartbeats 1000000 in
theorem seek_none {w : World} {c N : Nat} {rv : Value} {st : Int} {kv bv lv : Value} {rs : List (Value × Int)} {key : Int} (h : CuS w c N rv st kv bv lv []) :
    Calls Try.prog 75 #[.pointer (some ⟨c, 0, none⟩), .int .u64 key] w fun e w' => e = .panicked (thrown 2) ∧ Below w.heap.size w w' := by
  obtain ⟨ra, cap, rfl⟩ := h.bare
  obtain ⟨b0, b1, b2, b3, b4, bf⟩ := h.cells
  have hO := fun W h => on_none c cap ra W h
  clear h bf
  go_enter Try.func75, Try.ntmps75
  go_wp2_with (go_at_call 107; refine (hO _ b0).mono ?_; rintro e w' ⟨rfl, rfl⟩)
  simp [bodyPost, thrown]
  first | exact Below.refl _ _ | exact later_drewN _ _

set_option maxRecDepth 100000 in
set_option maxHeartbeats 1000000 in
theorem next_end {w : World} {c N : Nat} {rv : Value} {st : Int} {kv bv lv : Value} {rs : List (Value × Int)} {key : Int} {ka : Option Addr} {len kc : Nat} {a : Int} (h : CuS w c N rv st kv bv lv (rs ++ [(.slice ka len kc, a)])) (hr : rs.length < 2) (ha : ¬ a < len) :
    Calls Try.prog 74 #[.pointer (some ⟨c, 0, none⟩), .int .u64 key] w fun e w' => e = .panicked (thrown 4) ∧ Below w.heap.size w w' := by
  obtain ⟨k, hk⟩ : ∃ k, rs.length = k := ⟨_, rfl⟩
  obtain ⟨g, cap, rfl, hN, hg, hc0, hc1, hf, hcap, hcm⟩ := h.last hk
  obtain ⟨b0, b1, b2, b3, b4, bf⟩ := h.cells
  have hO := fun W h h1 h2 => on_end c g k cap len kc ka a W (by omega) h h1 h2 ha
  clear h hf bf hcm
  go_enter Try.func74, Try.ntmps74
  go_wp2_with (go_at_call 107; refine (hO _ b0 hc0 hc1).mono ?_; rintro e w' ⟨rfl, n, rfl⟩)
  simp [bodyPost, thrown]
  first | exact Below.refl _ _ | exact later_drewN _ _

set_option maxRecDepth 100000 in
set_option maxHeartbeats 1000000 in
theorem seek_end {w : World} {c N : Nat} {rv : Value} {st : Int} {kv bv lv : Value} {rs : List (Value × Int)} {key : Int} {ka : Option Addr} {len kc : Nat} {a : Int} (h : CuS w c N rv st kv bv lv (rs ++ [(.slice ka len kc, a)])) (hr : rs.length < 2) (ha : ¬ a < len) :
    Calls Try.prog 75 #[.pointer (some ⟨c, 0, none⟩), .int .u64 key] w fun e w' => e = .panicked (thrown 4) ∧ Below w.heap.size w w' := by
  obtain ⟨k, hk⟩ : ∃ k, rs.length = k := ⟨_, rfl⟩
  obtain ⟨g, cap, rfl, hN, hg, hc0, hc1, hf, hcap, hcm⟩ := h.last hk
  obtain ⟨b0, b1, b2, b3, b4, bf⟩ := h.cells
  have hO := fun W h h1 h2 => on_end c g k cap len kc ka a W (by omega) h h1 h2 ha
  clear h hf bf hcm
  go_enter Try.func75, Try.ntmps75
  go_wp2_with (go_at_call 107; refine (hO _ b0 hc0 hc1).mono ?_; rintro e w' ⟨rfl, n, rfl⟩)
  simp [bodyPost, thrown]
  first | exact Below.refl _ _ | exact later_drewN _ _

set_option maxRecDepth 100000 in
set_option maxHeartbeats 1000000 in
theorem open_full {w : World} {c N : Nat} {rv : Value} {st : Int} {kv bv lv : Value} {rs : List (Value × Int)} {key : Int} {x y : Value × Int} (h : CuS w c N rv st kv bv lv [x, y]) :
    Calls Try.prog 73 #[.pointer (some ⟨c, 0, none⟩), .int .u64 key] w fun e w' => e = .panicked (thrown 2) ∧ Below w.heap.size w w' := by
  obtain ⟨g, cap, rfl, hN, hg, hc0, hc1, hf, hcap, hcm⟩ := CuS.last (rs := [x]) (k := 1) (v := y.1) (a := y.2) h rfl
  obtain ⟨b0, b1, b2, b3, b4, bf⟩ := h.cells
  have hn := need_no 2
  clear h hf bf hcm
  go_enter Try.func73, Try.ntmps73
  go_wp2_with (go_at_call 106; refine (hn _).mono ?_; rintro e w' ⟨rfl, rfl⟩)
  simp [bodyPost, thrown]
  first | exact Below.refl _ _ | exact later_drewN _ _

set_option maxRecDepth 100000 in
set_option maxHeartbeats 1000000 in
theorem open_end {w : World} {c N : Nat} {rv : Value} {st : Int} {kv lv : Value} {ka ba : Option Addr} {len kc bn bc : Nat} {a key : Int}
    (h : CuS w c N rv st kv (.slice ba bn bc) lv [(.slice ka len kc, a)]) (ha : ¬ a < len) :
    Calls Try.prog 73 #[.pointer (some ⟨c, 0, none⟩), .int .u64 key] w fun e w' => e = .panicked (thrown 4) ∧ Below w.heap.size w w' := by
  obtain ⟨g, cap, rfl, hN, hg, g0, g1, gf, hcap, hcm⟩ := CuS.last (rs := []) (k := 0) h rfl
  simp only [Nat.zero_add] at g0 g1 h
  obtain ⟨b0, b1, b2, b3, b4, bf⟩ := h.cells
  have hn := fun W => (need_ok 2 W).mono (fun e w' ⟨h1, h2⟩ => (⟨h1, h2.symm⟩ : e = Ending.returned (.tuple #[]) ∧ W = w'))
  have hO := fun W (hb : Below w.heap.size w W) => on_end c g 0 cap len kc ka a W (by omega) ((hb.cell (p := ⟨c, 0, none⟩) (lt_of_block h.box)).trans b0) ((hb.cell (p := ⟨g, 0, none⟩) hg).trans g0) ((hb.cell (p := ⟨g, 1, none⟩) hg).trans g1) ha
  have hS : ∀ W, Below w.heap.size w W → W.cell? ⟨c, 3, none⟩ = some (.slice ba bn bc) := fun W hb => (hb.cell (p := ⟨c, 3, none⟩) (lt_of_block h.box)).trans b3
  have HO := Lib.hid hO
  have HS := Lib.hid hS
  clear h bf hO hS
  go_enter Try.func73, Try.ntmps73
  go_wp2_with (first
    | (go_at_call 106; refine (hn _).mono ?_; rintro e w' ⟨rfl, rfl⟩))
  refine wp_region_held_drew (S := fun W => W.cell? ⟨c, 3, none⟩ = some (.slice ba bn bc)) (by kernel_rfl) ?_ (fun hHeld => ?_)
  · exact b3
  refine wpAnyH_take (i := 0) (v := ?v0) rfl (by kernel_rfl) (by kernel_rfl) (by kernel_rfl) (fun _ _ _ h => h) (Or.inl ⟨by rfl, ?hy0⟩) (by assumption) ?rest0
  case hy0 => (intro w hSw; (try dsimp only at hSw); go_simp; try (with_reducible rfl))
  try simp only [Act.put, List.setIfInBounds_toArray, List.set_cons_zero, List.set_cons_succ, List.getElem_toArray, List.getElem_cons_zero]
  refine wpAnyH_take (i := 1) (v := ?v1) rfl (by kernel_rfl) (by kernel_rfl) (by kernel_rfl) (fun _ _ _ h => h) (Or.inl ⟨by rfl, ?hy1⟩) (by assumption) ?rest1
  case hy1 => (intro w hSw; (try dsimp only at hSw); go_simp; try (with_reducible rfl))
  try simp only [Act.put, List.setIfInBounds_toArray, List.set_cons_zero, List.set_cons_succ, List.getElem_toArray, List.getElem_cons_zero, List.getElem_cons_succ]
  refine wpAnyH_take (i := 2) (v := ?v2) rfl (by kernel_rfl) (by kernel_rfl) (by kernel_rfl) (fun _ _ _ h => h) (Or.inl ⟨by rfl, ?hy2⟩) (by assumption) ?rest2
  case hy2 => (intro w hSw; (try dsimp only at hSw); go_simp; try (with_reducible rfl))
  try simp only [Act.put, List.setIfInBounds_toArray, List.set_cons_zero, List.set_cons_succ, List.getElem_toArray, List.getElem_cons_zero, List.getElem_cons_succ]
  refine wpAnyH_take (i := 3) (v := ?v3) rfl (by kernel_rfl) (by kernel_rfl) (by kernel_rfl) (fun _ _ _ h => h) (Or.inl ⟨by rfl, ?hy3⟩) (by assumption) ?rest3
  case hy3 => (intro w hSw; (try dsimp only at hSw); go_simp; try (with_reducible rfl))
  try simp only [Act.put, List.setIfInBounds_toArray, List.set_cons_zero, List.set_cons_succ, List.getElem_toArray, List.getElem_cons_zero, List.getElem_cons_succ]
  refine wpAnyH_take (i := 4) (v := ?v4) rfl (by kernel_rfl) (by kernel_rfl) (by kernel_rfl) (fun _ _ _ h => h) (Or.inl ⟨by rfl, ?hy4⟩) (by assumption) ?rest4
  case hy4 => (intro w hSw; (try dsimp only at hSw); go_simp; try (with_reducible rfl))
  try simp only [Act.put, List.setIfInBounds_toArray, List.set_cons_zero, List.set_cons_succ, List.getElem_toArray, List.getElem_cons_zero, List.getElem_cons_succ]
  refine wpAnyH_take (i := 5) (v := ?v5) rfl (by kernel_rfl) (by kernel_rfl) (by kernel_rfl) (fun _ _ _ h => h) (Or.inl ⟨by rfl, ?hy5⟩) (by assumption) ?rest5
  case hy5 => (intro w hSw; (try dsimp only at hSw); go_simp; try (with_reducible rfl))
  try simp only [Act.put, List.setIfInBounds_toArray, List.set_cons_zero, List.set_cons_succ, List.getElem_toArray, List.getElem_cons_zero, List.getElem_cons_succ]
  refine wpAnyH_ready (rs := [6, 12]) (by kernel_rfl) (by simp) ?_
  refine AllReadyH.cons rfl (fun K hK => ?_) (AllReadyH.cons rfl (fun K hK => ?_) AllReadyH.nil)
  · go_simp
    refine (HO.out _ (later_drew _)).mono ?_
    rintro e w' ⟨rfl, n, rfl⟩
    show _ ∧ _
    exact ⟨rfl, rfl, later_trans (later_drew w) (later_drewN _ n)⟩
  · go_simp
    refine hK.out _ _ (HS.out _ (by first | exact later_trans (later_drew w) (later_alloc _ _) | exact later_trans (later_alloc w _) (later_drew _))) (fun hH2 => ?_)
    clear hK K
    try simp only [Act.put, List.setIfInBounds_toArray, List.set_cons_zero, List.set_cons_succ, List.getElem_toArray, List.getElem_cons_zero, List.getElem_cons_succ]
    refine wpAnyH_ready (rs := [6]) (by kernel_rfl) (by simp) ?_
    refine AllReadyH.cons rfl (fun K hK => ?_) AllReadyH.nil
    go_simp
    refine (HO.out _ (by first | exact later_trans (later_alloc w _) (later_drew _) | exact later_trans (later_drew w) (later_alloc _ _))).mono ?_
    rintro e w' ⟨rfl, n, rfl⟩
    show _ ∧ _
    exact ⟨rfl, rfl, later_trans (by first | exact later_trans (later_alloc w _) (later_drew _) | exact later_trans (later_drew w) (later_alloc _ _)) (later_drewN _ n)⟩

/-- The looks that a cursor's search takes. -/
theorem few_bound {n i p looks : Nat} (h : FewLooks n i p looks) (hi : i < n) (hn : n ≤ 1099511627776) (hp : p ≤ n) (hip : i ≤ p) : looks ≤ 2000 := by
  obtain ⟨_, h2⟩ := h.2 hi
  have := lg_le (1 + (p : Int) - i) (by omega)
  omega

set_option maxRecDepth 100000 in
set_option maxHeartbeats 2000000 in
/-- seek, where there is one. -/
theorem seek_ok {w : World} {c N : Nat} {rv : Value} {st : Int} {kv bv lv : Value} {rs : List (Value × Int)} {v : Value} {i : Nat} {key : Int} {xs : List Int} (h : CuS w c N rv st kv bv lv (rs ++ [(v, (i : Int))])) (hr : rs.length < 2)
    (hv : SlI .u64 w v xs) (ha : i < xs.length) (hx : risesB xs = true) (hxl : xs.length ≤ 1099511627776) (hs0 : 0 ≤ st) (hs : st ≤ 4611686018427387904) :
    Calls Try.prog 75 #[.pointer (some ⟨c, 0, none⟩), .int .u64 key] w fun e w' => e = .returned (.tuple #[]) ∧
      ∃ looks : Nat, FewR xs.length i (fun j => geB key (xs.getD j 0)) (place xs i (geB key)) looks ∧ CuS w' c N rv (st + looks) kv bv lv (rs ++ [(v, (place xs i (geB key) : Int))]) ∧ Turn w w' c rv rv := by
  obtain ⟨p, hp⟩ : ∃ p, place xs i (geB key) = p := ⟨_, rfl⟩
  have hpl : p ≤ xs.length := by rw [← hp]; exact place_le (by omega)
  have hpi : i ≤ p := by rw [← hp]; exact place_ge
  have hmay : mayB xs i = true := by simp [mayB, hx]; omega
  have hSk := fun W (hb : Below w.heap.size w W) => Seek_any v xs i key W (hv.later hb) hxl
  obtain ⟨ka, kc, rfl, -, -, -, -⟩ := hv.open
  obtain ⟨k, hk⟩ : ∃ k, rs.length = k := ⟨_, rfl⟩
  obtain ⟨g, cap, rfl, hN, hg, hc0, hc1, hf, hcap, hcm⟩ := h.last hk
  obtain ⟨b0, b1, b2, b3, b4, bf⟩ := h.cells
  have hO := fun W h h1 h2 => on_ok c g k cap xs.length kc ka i W (by omega) h h1 h2 (by omega)
  have hn := fun W => (need_ok 0 W).mono (fun e w' ⟨h1, h2⟩ => (⟨h1, h2.symm⟩ : e = Ending.returned (.tuple #[]) ∧ W = w'))
  have hS : ∀ W, Below w.heap.size w W → W.cell? ⟨g, k * 2, none⟩ = some (.slice ka xs.length kc) ∧ W.cell? ⟨g, k * 2 + 1, none⟩ = some (.int .i64 i) := fun W hb =>
    ⟨(hb.cell (p := ⟨g, k * 2, none⟩) hg).trans hc0, (hb.cell (p := ⟨g, k * 2 + 1, none⟩) hg).trans hc1⟩
  have H := Lib.hid h
  have HS := Lib.hid hS
  have HK := Lib.hid hSk
  have HP := Lib.hid hp
  have HM := Lib.hid hmay
  have HX := Lib.hid hx
  rw [hp]
  clear h hf bf hcm hS hSk hp hmay hx hv
  go_enter Try.func75, Try.ntmps75
  go_wp2_with (go_at_call 107; refine (hO _ b0 hc0 hc1).mono ?_; rintro e w' ⟨rfl, n, hw'⟩; have hb1 : Below w.heap.size w w' := (by rw [hw']; exact later_drewN w n); clear hw')
  go_region_held3 (fun W => W.cell? ⟨g, k * 2, none⟩ = some (.slice ka xs.length kc) ∧ W.cell? ⟨g, k * 2 + 1, none⟩ = some (.int .i64 i))
    (with_reducible (first | exact HS.out _ hb1 | exact HS.out _ (later_trans hb1 (later_drew _)) | exact HS.out _ hb2 | assumption))
    (first
      | (go_at_call 108; refine (HK.out _ (later_trans hb1 (later_drew _))).mono ?_; intro e w2 hE; obtain ⟨he, hbE⟩ := hE; rw [if_pos HM.out] at he; obtain ⟨looks, rfl, hfew⟩ := he; rw [Int.toNat_natCast, HP.out] at hfew ⊢; have hb2 : Below w.heap.size w w2 := later_trans (later_trans hb1 (later_drew _)) hbE; have HF := Lib.hid hfew; clear hfew hbE))
  rename_i hHeld
  clear hHeld
  have hlk := few_bound HF.out.1 ha hxl hpl hpi
  have H2 := Lib.hid (H.out.later hb2)
  obtain ⟨g', cap', hrv, -, -, -, d1, df, -, -⟩ := CuS.last H2.out hk
  cases hrv
  obtain ⟨-, e1, -, -, -, ef⟩ := H2.out.cells
  have hlow := H2.out.low
  have hne : g ≠ c := by omega
  have hfar : ∀ u, (w2.setCell ⟨g, k * 2 + 1, none⟩ u).cell? ⟨c, 1, none⟩ = some (.int .i64 st) := fun u => by rw [World.cell?_setCell_other _ _ _ _ (by simp)]; exact e1
  have hfarf : ∀ u, (w2.setCell ⟨g, k * 2 + 1, none⟩ u).frozen? ⟨c, 1, none⟩ = false := fun u => by rw [World.frozen?_setCell]; exact ef 1
  have hf1 := df (k * 2 + 1)
  have hf2 := ef 1
  clear df ef b0 b1 b2 b3 b4 hc0 hc1 hO HK HS hpi
  go_wp2_with (go_at_call 106; refine (hn _).mono ?_; rintro e w' ⟨rfl, rfl⟩)
  try go_end0
  exact ⟨rfl, looks, HF.out, (H2.out.setLast hk (p : Int)).setSteps _, ((Turn.of_below hb2 c _).trans (Turn.setRow _ _ _ _ _ _ _)).trans (Turn.setBox _ _ _ _ _)⟩
end Go.Proofs.Ytdfnfdgkhflonaa
