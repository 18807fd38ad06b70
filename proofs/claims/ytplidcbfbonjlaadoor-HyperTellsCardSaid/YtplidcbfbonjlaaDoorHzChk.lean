/-
  hyper.Check; the document's Has and Right; slices.EqualFunc at rows that are the same. (Printed by mkhzlib.py.)
-/
import Derived.Laws.CopyOwn
import Derived.Test.YtplidcbfbonjlaaDoorHzLib
namespace Go.Proofs.YtplidcbfbonjlaaDoor
open Go.RowKit Go.Shelf
set_option linter.unusedVariables false
set_option linter.unusedSimpArgs false

abbrev hypV (m : Int) (ev : Value) : Value := .agg #[.int .i64 m, ev]
/-- A hypergraph in a box. -/
def HB (w : World) (x : Nat) (m : Int) (ev : Value) : Prop := w.heap[x]? = some (.cells #[.int .i64 m, ev] 24 (0, 0))
def sizesB (m n : Int) : Bool := decide (0 ≤ m) && decide (m ≤ 32) && decide (n ≤ 40)
theorem sizes_any (m n : Int) (w : World) : Calls Tryd.prog 30 #[.int .i64 m, .int .i64 n] w fun e w' => e = .returned (.bool (sizesB m n)) ∧ w' = w := by
  unfold sizesB
  by_cases h1 : 0 ≤ m
  · have k1 : decide (0 ≤ m) = true := decide_eq_true h1
    by_cases h2 : m ≤ 32
    · have k2 : decide (m ≤ 32) = true := decide_eq_true h2
      by_cases h3 : n ≤ 40
      · have k3 : decide (n ≤ 40) = true := decide_eq_true h3
        rw [k1, k2, k3]
        go_enter Tryd.func30, Tryd.ntmps30
        go_wp2
        go_ret
        exact ⟨rfl, rfl⟩
      · have k3 : decide (n ≤ 40) = false := decide_eq_false h3
        rw [k1, k2, k3]
        go_enter Tryd.func30, Tryd.ntmps30
        go_wp2
        go_ret
        exact ⟨rfl, rfl⟩
    · have k2 : decide (m ≤ 32) = false := decide_eq_false h2
      rw [k1, k2]
      go_enter Tryd.func30, Tryd.ntmps30
      go_wp2
      go_ret
      exact ⟨rfl, rfl⟩
  · have k1 : decide (0 ≤ m) = false := decide_eq_false h1
    rw [k1]
    go_enter Tryd.func30, Tryd.ntmps30
    go_wp2
    go_ret
    exact ⟨rfl, rfl⟩
theorem vertex_any {x : Nat} {m v : Int} {i : Value} {W : World} (h : W.heap[x]? = some (.cells #[.int .i64 m] 3 (0, 0))) :
    Calls Tryd.prog 57 #[i, .int .i64 v, .pointer (some ⟨x, 0, none⟩)] W fun e w' => e = .returned (.bool (decide (0 ≤ v) && decide (v < m))) ∧ w' = W := by
  have c0 : W.cell? ⟨x, 0, none⟩ = some (.int .i64 m) := by simpa using box_cell (i := 0) h
  clear h
  by_cases h1 : 0 ≤ v
  · have k1 : decide (0 ≤ v) = true := decide_eq_true h1
    by_cases h2 : v < m
    · have k2 : decide (v < m) = true := decide_eq_true h2
      rw [k1, k2]
      go_enter Tryd.func57, Tryd.ntmps57
      go_wp2
      go_ret
      exact ⟨rfl, rfl⟩
    · have k2 : decide (v < m) = false := decide_eq_false h2
      rw [k1, k2]
      go_enter Tryd.func57, Tryd.ntmps57
      go_wp2
      go_ret
      exact ⟨rfl, rfl⟩
  · have k1 : decide (0 ≤ v) = false := decide_eq_false h1
    rw [k1]
    go_enter Tryd.func57, Tryd.ntmps57
    go_wp2
    go_ret
    exact ⟨rfl, rfl⟩
def vertsB (m : Int) (e : List Int) : Bool := allI e fun _ v => decide (0 ≤ v) && decide (v < m)
theorem vertices_any (v : Value) (xs : List Int) (m : Int) (w : World) (h : SlI .i64 w v xs) :
    Calls Tryd.prog 33 #[v, .int .i64 m] w fun e w' => e = .returned (.bool (vertsB m xs)) ∧ Below w.heap.size w w' := by
  have hE : Enters 57 := enters_of Tryd.func57 (by kernel_rfl) rfl
  have hC : Calls Tryd.prog 34 #[v, .func (.func 57) #[] #[.pointer (some ⟨w.heap.size, 0, none⟩)]] (w.alloc (.cells #[.int .i64 m] 3)) fun e w' => e = .returned (.bool (vertsB m xs)) ∧ Below (w.alloc (.cells #[.int .i64 m] 3)).heap.size (w.alloc (.cells #[.int .i64 m] 3)) w' :=
    allI_any hE (h.alloc _) fun i hi W hb => (vertex_any (kept hb (box_new w _ _))).mono fun e w' ⟨he, hw⟩ => ⟨he, by rw [hw]; exact Below.refl _ _⟩
  have HC := Lib.hid hC
  obtain ⟨a, c, rfl, -⟩ := h.open
  clear h hC hE
  go_enter Tryd.func33, Tryd.ntmps33
  go_wp2_with fail
  refine HC.out.mono ?_
  rintro e w' ⟨rfl, hb⟩
  go_wp2_with fail
  go_ret
  exact ⟨rfl, below_new hb⟩
def riseI (e : List Int) (i : Nat) (v : Int) : Bool := decide (i = 0) || decide (e.getD (i - 1) 0 < v)
theorem rise1_any {x i : Nat} {v : Int} {ev : Value} {xs : List Int} {W : World} (h : W.heap[x]? = some (.cells #[ev] 27 (0, 0))) (hs : SlI .i64 W ev xs) (hi : i < xs.length) :
    Calls Tryd.prog 35 #[.int .i64 i, .int .i64 v, .pointer (some ⟨x, 0, none⟩)] W fun e w' => e = .returned (.bool (riseI xs i v)) ∧ w' = W := by
  have c0 : W.cell? ⟨x, 0, none⟩ = some ev := by simpa using box_cell (i := 0) h
  clear h
  obtain ⟨a, c, rfl, h1, h2, h3, h4⟩ := hs.open
  obtain ⟨b, o, rfl, hb, hc⟩ := h4 (by omega)
  unfold riseI
  cases i with
  | zero =>
    clear hs h3 h4 hc
    rw [decide_eq_true rfl]
    go_enter Tryd.func35, Tryd.ntmps35
    go_wp2
    go_ret
    exact ⟨rfl, rfl⟩
  | succ i =>
    have c1 := hc i (by omega)
    rw [← getD_at (by omega)] at c1
    have hm : i + 1 < xs.length := hi
    clear hs h3 h4 hc hi
    have hb1 : (((i + 1 : Nat) : Int) == 0) = false := by rw [beq_eq_false_iff_ne]; omega
    have hw : ((i + 1 : Nat) : Int) - 1 = (i : Int) := by omega
    have hi1 : (i : Int) < xs.length := by omega
    rw [decide_eq_false (by omega), Bool.false_or, Nat.add_sub_cancel]
    obtain ⟨y, hy⟩ : ∃ y, xs.getD i 0 = y := ⟨_, rfl⟩
    rw [hy] at c1 ⊢
    clear hy
    obtain ⟨k, hk⟩ : ∃ k : Int, ((i + 1 : Nat) : Int) = k := ⟨_, rfl⟩
    rw [hk] at hw hb1 ⊢
    have hk1 : 1 ≤ k := by omega
    have hk2 : k ≤ 9223372036854775807 := by omega
    clear hk
    go_enter Tryd.func35, Tryd.ntmps35
    go_wp2
    go_ret
    exact ⟨rfl, rfl⟩
def edgeB (m : Int) (e : List Int) : Bool := vertsB m e && allI e (riseI e)
set_option maxHeartbeats 400000 in
theorem edge_any {x : Nat} {m : Int} {hv ev i : Value} {xs : List Int} {W : World} (h : HB W x m hv) (hs : SlI .i64 W ev xs) :
    Calls Tryd.prog 32 #[i, ev, .pointer (some ⟨x, 0, none⟩)] W fun e w' => e = .returned (.bool (edgeB m xs)) ∧ Below W.heap.size W w' := by
  have c0 : W.cell? ⟨x, 0, none⟩ = some (.int .i64 m) := by simpa using box_cell (i := 0) h
  have lx := lt_of_block h
  have hE : Enters 35 := enters_of Tryd.func35 (by kernel_rfl) rfl
  have hV := vertices_any ev xs m (W.alloc (.cells #[ev] 27)) (hs.alloc _)
  have hA : ∀ W1, Below (W.alloc (.cells #[ev] 27)).heap.size (W.alloc (.cells #[ev] 27)) W1 → Calls Tryd.prog 34 #[ev, .func (.func 35) #[] #[.pointer (some ⟨W.heap.size, 0, none⟩)]] W1 fun e w' => e = .returned (.bool (allI xs (riseI xs))) ∧ Below W1.heap.size W1 w' := fun W1 hb1 =>
    allI_any hE ((hs.alloc _).later hb1) fun i hi W2 hb2 => (rise1_any (kept (later_trans hb1 hb2) (box_new W _ _)) ((hs.alloc _).later (later_trans hb1 hb2)) hi).mono fun e w' ⟨he, hw⟩ => ⟨he, by rw [hw]; exact Below.refl _ _⟩
  have HV := Lib.hid hV
  have HA := Lib.hid hA
  obtain ⟨a, c, rfl, -⟩ := hs.open
  unfold edgeB
  clear h hs hV hA hE
  by_cases h1 : vertsB m xs = true
  · rw [h1] at HV ⊢
    rw [Bool.true_and]
    go_enter Tryd.func32, Tryd.ntmps32
    go_wp2_with fail
    refine HV.out.mono ?_
    rintro e w1 ⟨rfl, hb1⟩
    have HB1 := Lib.hid hb1
    have c1 : w1.cell? ⟨W.heap.size, 0, none⟩ = some (.slice a xs.length c) := by simpa using box_cell (i := 0) (new_kept hb1)
    clear hb1
    go_wp2_with fail
    refine (HA.out _ HB1.out).mono ?_
    rintro e w2 ⟨rfl, hb2⟩
    go_wp2_with fail
    go_ret
    exact ⟨rfl, below_new (later_trans HB1.out hb2)⟩
  · have h1 := Bool.eq_false_iff.2 h1
    rw [h1] at HV ⊢
    rw [Bool.false_and]
    go_enter Tryd.func32, Tryd.ntmps32
    go_wp2_with fail
    refine HV.out.mono ?_
    rintro e w1 ⟨rfl, hb1⟩
    go_wp2_with fail
    go_ret
    exact ⟨rfl, below_new hb1⟩
/-- May a hypergraph be? -/
def hypB (m : Int) (ls : List (List Int)) : Bool := sizesB m ls.length && allR ls fun _ e => edgeB m e
set_option maxHeartbeats 400000 in
theorem hyperCheck_any (m : Int) (ev : Value) (ls : List (List Int)) (w : World) (h : SlRK .i64 w ev ls) :
    Calls Tryd.prog 11 #[hypV m ev] w fun e w' => e = .returned (.int .i64 (if hypB m ls = true then 0 else 300)) ∧ Below w.heap.size w w' := by
  have hE : Enters 32 := enters_of Tryd.func32 (by kernel_rfl) rfl
  have hl := h.len
  have hS := fun W => sizes_any m ls.length W
  have hA := allR_any (F := 32) (caps := #[.pointer (some ⟨w.heap.size, 0, none⟩)]) (p := fun _ e => edgeB m e) (w := w.alloc (.cells #[.int .i64 m, ev] 24)) hE (h.later (later_alloc _ _)) fun r hr rv W hb hrv => edge_any (kept hb (box_new w _ _)) hrv
  have HA := Lib.hid hA
  obtain ⟨a, c, rfl, -⟩ := h.open
  clear h hA hE
  unfold hypB
  by_cases h1 : sizesB m ls.length = true
  · simp only [h1] at hS
    rw [h1, Bool.true_and]
    by_cases h2 : (allR ls fun _ e => edgeB m e) = true
    · rw [h2] at HA
      rw [if_pos h2]
      clear h1 h2
      go_enter Tryd.func11, Tryd.ntmps11
      go_wp2_with fail
      refine (hS _).mono ?_
      rintro e w1 ⟨rfl, rfl⟩
      go_wp2_with fail
      refine HA.out.mono ?_
      rintro e w2 ⟨rfl, hb2⟩
      go_wp2_with fail
      go_ret
      exact ⟨rfl, below_new hb2⟩
    · have h2 := Bool.eq_false_iff.2 h2
      rw [h2] at HA
      rw [if_neg (by rw [h2]; decide)]
      clear h1 h2
      go_enter Tryd.func11, Tryd.ntmps11
      go_wp2_with fail
      refine (hS _).mono ?_
      rintro e w1 ⟨rfl, rfl⟩
      go_wp2_with fail
      refine HA.out.mono ?_
      rintro e w2 ⟨rfl, hb2⟩
      go_wp2_with fail
      go_ret
      exact ⟨rfl, below_new hb2⟩
  · have h1 := Bool.eq_false_iff.2 h1
    simp only [h1] at hS
    rw [h1, Bool.false_and, if_neg (by decide)]
    clear h1
    go_enter Tryd.func11, Tryd.ntmps11
    go_wp2_with fail
    refine (hS _).mono ?_
    rintro e w1 ⟨rfl, rfl⟩
    go_wp2_with fail
    go_ret
    exact ⟨rfl, later_alloc _ _⟩
theorem cover_no {n j : Nat} {p : Nat → Bool} (hj : j < n) (h : p j = false) : (List.range n).all p = false := by
  rw [List.all_eq_false]; exact ⟨j, List.mem_range.2 hj, by rw [h]; decide⟩
theorem cover_yes {n : Nat} {p : Nat → Bool} (h : ∀ j, j < n → p j = true) : (List.range n).all p = true := by
  rw [List.all_eq_true]; exact fun j hj => h j (List.mem_range.1 hj)
set_option maxHeartbeats 400000 in
/-- Has: does a row have a number? It only reads. -/
theorem Has_any (v : Value) (xs : List Int) (x : Int) (w : World) (h : SlI .i64 w v xs) :
    Calls Tryd.prog 52 #[v, .int .i64 x] w fun e w' => e = .returned (.bool (decide (x ∈ xs))) ∧ w' = w := by
  obtain ⟨a, c, rfl, h1, h2, h3, h4⟩ := h.open
  have HX := Lib.hid h4
  have hm : xs.length ≤ 9223372036854775807 := by omega
  clear h h1 h2 h3 h4
  go_enter Tryd.func52, Tryd.ntmps52
  go_wp2
  go_loop [9] (fun i => ∃ k : Nat, k ≤ xs.length ∧ i = .int .i64 k ∧ ∀ j, j < k → xs.getD j 0 ≠ x) (fun i => xs.length - (intOf i).toNat)
  case atStart => exact ⟨0, Nat.zero_le _, rfl, fun j hj => by omega⟩
  case round =>
    obtain ⟨k, hk, rfl, hs⟩ := hrel
    have HS := Lib.hid hs
    clear hs
    by_cases hlt : k < xs.length
    · obtain ⟨b, o, rfl, hb, hc⟩ := HX.out (by omega)
      have c1 := hc k hlt
      have HM := Lib.hid (List.getElem_mem hlt)
      rw [← getD_at hlt] at c1
      have HG := Lib.hid (getD_at hlt)
      obtain ⟨y, hy⟩ : ∃ y, xs.getD k 0 = y := ⟨_, rfl⟩
      rw [hy] at c1
      have HY := Lib.hid hy
      clear hc hy
      by_cases hxy : y = x
      · have e : Hid (decide (x ∈ xs) = true) := Lib.hid (decide_eq_true (by rw [← hxy, ← HY.out, HG.out]; exact HM.out))
        have hb1 : (y == x) = true := by rw [beq_iff_eq]; exact hxy
        clear hxy
        go_wp2
        go_ret
        exact ⟨ret_bool e.out.symm, rfl⟩
      · have hb1 : (y == x) = false := by rw [beq_eq_false_iff_ne]; exact hxy
        go_wp2
        go_round
        case rel => exact ⟨k + 1, by omega, by go_num, fun j hj => by
          by_cases e : j = k
          · subst e; rw [HY.out]; exact hxy
          · exact HS.out j (by omega)⟩
        case measure => simp [intOf]; omega
    · have e : Hid (decide (x ∈ xs) = false) := Lib.hid (decide_eq_false fun hm => by
        obtain ⟨j, hj, e⟩ := List.getElem_of_mem hm
        exact HS.out j (by omega) (by rw [getD_at hj]; exact e))
      go_wp2
      go_ret
      exact ⟨ret_bool e.out.symm, rfl⟩
/-- May an element stand where it stands? -/
def elOk (m : Int) (e : List Int) (j : Nat) : Bool := (decide (0 ≤ e.getD j 0) && decide (e.getD j 0 < m)) && riseI e j (e.getD j 0)
theorem edge_yes {m : Int} {e : List Int} (h : ∀ j, j < e.length → elOk m e j = true) : edgeB m e = true := by
  unfold edgeB vertsB
  rw [allI_yes (fun j hj => ?_), allI_yes (fun j hj => ?_)]
  · rfl
  · have := h j hj
    unfold elOk at this
    simp only [Bool.and_eq_true] at this ⊢
    exact this.2
  · have := h j hj
    unfold elOk at this
    simp only [Bool.and_eq_true] at this ⊢
    exact this.1
theorem edge_no {m : Int} {e : List Int} {j : Nat} (hj : j < e.length) (h : elOk m e j = false) : edgeB m e = false := by
  unfold edgeB vertsB
  unfold elOk at h
  rw [Bool.and_eq_false_iff] at h
  rcases h with h | h
  · rw [allI_no hj h, Bool.false_and]
  · rw [allI_no hj h, Bool.and_false]
set_option maxRecDepth 100000 in
set_option maxHeartbeats 4000000 in
/-- Right: may a hypergraph be? -/
theorem Right20_any (m : Int) (ev : Value) (ls : List (List Int)) (w : World) (h : SlRK .i64 w ev ls) :
    Calls Tryd.prog 17 #[hypV m ev] w fun e w' => e = .returned (.bool (hypB m ls)) ∧ Below w.heap.size w w' := by
  have H := Lib.hid (h.later (later_alloc w (.cells #[.int .i64 m, ev] 24)))
  have hl := h.len
  obtain ⟨ae, ce, rfl, -⟩ := h.open
  clear h
  by_cases h1 : m < 0
  · rw [show hypB m ls = false from by unfold hypB sizesB; rw [decide_eq_false (show ¬ 0 ≤ m by omega)]; simp]
    go_enter Tryd.func17, Tryd.ntmps17
    go_wp2
    go_ret
    exact ⟨rfl, later_alloc _ _⟩
  by_cases h2 : 32 < m
  · rw [show hypB m ls = false from by unfold hypB sizesB; rw [decide_eq_false (show ¬ m ≤ 32 by omega)]; simp]
    go_enter Tryd.func17, Tryd.ntmps17
    go_wp2
    go_ret
    exact ⟨rfl, later_alloc _ _⟩
  by_cases h3 : 40 < ls.length
  · have h3i : (40 : Int) < ls.length := by omega
    rw [show hypB m ls = false from by unfold hypB sizesB; rw [decide_eq_false (show ¬ (ls.length : Int) ≤ 40 by omega)]; simp]
    go_enter Tryd.func17, Tryd.ntmps17
    go_wp2
    go_ret
    exact ⟨rfl, later_alloc _ _⟩
  have hB : hypB m ls = (List.range ls.length).all fun i => edgeB m (rowN ls i) := by
    unfold hypB sizesB allR
    rw [decide_eq_true (show 0 ≤ m by omega), decide_eq_true (show m ≤ 32 by omega), decide_eq_true (show (ls.length : Int) ≤ 40 by omega)]; rfl
  rw [hB]
  have h40 : ls.length ≤ 40 := by omega
  have h40i : ¬ (40 : Int) < ls.length := by omega
  clear hB h3
  go_enter Tryd.func17, Tryd.ntmps17
  go_wp2
  go_loop [24] (fun i => ∃ k : Nat, k ≤ ls.length ∧ i = .int .i64 k ∧ ∀ j, j < k → edgeB m (rowN ls j) = true) (fun i => ls.length - (intOf i).toNat)
  case atStart => exact ⟨0, Nat.zero_le _, rfl, fun j hj => by omega⟩
  case round =>
    obtain ⟨k, hk, rfl, hs⟩ := hrel
    have HS := Lib.hid hs
    clear hs
    by_cases hlt : k < ls.length
    · obtain ⟨_, _, e1, _, _, _, g4⟩ := H.out.open
      obtain ⟨be, oe, e2, _, gc⟩ := g4 (by omega)
      obtain ⟨rv, ce1, hrv⟩ := gc k hlt
      injection e1 with e1a e1b e1c
      subst e1a e1c
      subst e2
      obtain ⟨xs, hxs⟩ : ∃ xs, rowN ls k = xs := ⟨_, rfl⟩
      rw [hxs] at hrv
      obtain ⟨a, c, rfl, s1, s2, s3, s4⟩ := hrv.open
      have HR := Lib.hid (And.intro s4 (And.intro hxs hlt))
      have hxl : xs.length ≤ 9223372036854775807 := by omega
      clear gc g4 e1b hrv s1 s2 s3 s4 hxs
      go_wp2
      go_loop [30] (fun i => ∃ j : Nat, j ≤ xs.length ∧ i = .int .i64 j ∧ ∀ q, q < j → elOk m xs q = true) (fun i => xs.length - (intOf i).toNat)
      case atStart => exact ⟨0, Nat.zero_le _, rfl, fun j hj => by omega⟩
      case round =>
        obtain ⟨j, hj, rfl, hq⟩ := hrel
        have HQ := Lib.hid hq
        clear hq
        by_cases hjl : j < xs.length
        · obtain ⟨b, o, rfl, hb, hc⟩ := HR.out.1 (by omega)
          have c1 := hc j hjl
          rw [← getD_at hjl] at c1
          have HE : Hid (elOk m xs j = ((decide (0 ≤ xs.getD j 0) && decide (xs.getD j 0 < m)) && riseI xs j (xs.getD j 0))) := Lib.hid rfl
          obtain ⟨y, hy⟩ : ∃ y, xs.getD j 0 = y := ⟨_, rfl⟩
          rw [hy] at c1 HE
          have HN : Hid (elOk m xs j = false → (List.range ls.length).all (fun i => edgeB m (rowN ls i)) = false) := Lib.hid (fun e => cover_no HR.out.2.2 (by rw [HR.out.2.1]; exact edge_no hjl e))
          have HJ := Lib.hid hjl
          by_cases y1 : y < 0
          · have HF := Lib.hid (HN.out (by rw [HE.out, decide_eq_false (show ¬ 0 ≤ y by omega)]; rfl))
            clear hc hy
            go_wp2
            go_ret
            exact ⟨ret_bool HF.out.symm, later_alloc _ _⟩
          by_cases y2 : m ≤ y
          · have HF := Lib.hid (HN.out (by rw [HE.out, decide_eq_false (show ¬ y < m by omega), Bool.and_false]; rfl))
            clear hc hy
            go_wp2
            go_ret
            exact ⟨ret_bool HF.out.symm, later_alloc _ _⟩
          by_cases y3 : j = 0
          · have HY : Hid (elOk m xs j = true) := Lib.hid (by
              rw [HE.out, decide_eq_true (show 0 ≤ y by omega), decide_eq_true (show y < m by omega)]
              unfold riseI
              rw [decide_eq_true y3]; rfl)
            subst y3
            rw [Nat.add_zero] at c1
            clear hc hy
            go_wp2
            go_round
            case rel => exact ⟨1, by omega, by go_num, fun q hq => by
              obtain rfl : q = 0 := by omega
              exact HY.out⟩
            case measure => simp [intOf]; omega
          obtain ⟨i, hi⟩ : ∃ i, j = i + 1 := ⟨j - 1, by omega⟩
          have c2 := hc i (by omega)
          rw [← getD_at (by omega)] at c2
          obtain ⟨p, hp⟩ : ∃ p, xs.getD i 0 = p := ⟨_, rfl⟩
          rw [hp] at c2
          have hri : riseI xs j y = decide (p < y) := by
            unfold riseI
            rw [decide_eq_false y3, Bool.false_or, hi, Nat.add_sub_cancel, hp]
          have hw : (j : Int) - 1 = (i : Int) := by omega
          have hi1 : (i : Int) < xs.length := by omega
          have hj1 : (1 : Int) ≤ j := by omega
          have hjp : 0 < j := by omega
          have hjpI : (0 : Int) < j := by omega
          have hj2 : (j : Int) ≤ 9223372036854775807 := by omega
          by_cases y4 : y ≤ p
          · have HF := Lib.hid (HN.out (by rw [HE.out, hri, decide_eq_false (show ¬ p < y by omega), Bool.and_false]))
            clear hc hy hp hri hi y3
            go_wp2
            go_ret
            exact ⟨ret_bool HF.out.symm, later_alloc _ _⟩
          · have HY : Hid (elOk m xs j = true) := Lib.hid (by
              rw [HE.out, hri, decide_eq_true (show 0 ≤ y by omega), decide_eq_true (show y < m by omega), decide_eq_true (show p < y by omega)]; rfl)
            clear hc hy hp hri hi y3
            go_wp2
            go_round
            case rel => exact ⟨j + 1, by have := HJ.out; omega, by go_num, fun q hq => by
              by_cases e : q = j
              · subst e; exact HY.out
              · exact HQ.out q (by omega)⟩
            case measure => simp [intOf]; omega
        · have HY : Hid (edgeB m (rowN ls k) = true) := Lib.hid (by
            rw [HR.out.2.1]
            exact edge_yes fun q hq => HQ.out q (by omega))
          go_wp2
          go_round
          case rel => exact ⟨k + 1, by omega, by go_num, fun j hj => by
            by_cases e : j = k
            · subst e; exact HY.out
            · exact HS.out j (by omega)⟩
          case measure => simp [intOf]; omega
    · have HY : Hid ((List.range ls.length).all (fun i => edgeB m (rowN ls i)) = true) := Lib.hid (cover_yes fun j hj => HS.out j (by omega))
      go_wp2
      go_ret
      exact ⟨ret_bool HY.out.symm, later_alloc _ _⟩
theorem info1_int : (Tryd.prog.info? 3).map (·.size) = some 1 := by kernel_rfl
theorem owns_blockI {w : World} {base : Nat} {e : TypeId} {g n : Nat} {xs : List Value} (h : w.ownsRow base e 1 (.slice (some ⟨g, 0, none⟩) n n) n xs) : w.heap[g]? = some (.cells xs.toArray e (0, 0)) := by
  rcases h.2 with ⟨h', _⟩ | ⟨g', cap, cur, hv, _, hh, _, _, h3, h4⟩
  · cases h'
  · cases hv
    rw [hh]
    have : xs.toArray = cur := by
      rw [← h4, List.take_of_length_le (by simp; omega)]
    rw [this]
theorem copy_srcI {W : World} {a : Option Addr} {n c g : Nat} {cs : List Value} (h : SlC W (.slice a n c) cs) : 0 < cs.length → some (⟨g, 0, none⟩ : Addr) = some ⟨g, 0, none⟩ ∧ ∃ ad, a = some ad ∧ ∀ j v, cs[j]? = some v → W.cell? (ad.add j) = some v := by
  intro h0
  refine ⟨rfl, ?_⟩
  cases a with
  | none => obtain ⟨_, _, e, _, _, _, h4⟩ := h; obtain ⟨b, o, e2, _⟩ := h4 (by intro h1; simp [h1] at h0); cases e; cases e2
  | some ad => exact ⟨ad, rfl, h.cells⟩
theorem copy_ownsI {W : World} {base g n m : Nat} {e : TypeId} {Z cs : List Value} (h : W.heap[g]? = some (.cells (splice Z 0 cs).toArray e (0, 0))) (hg : base ≤ g) (hn : n ≤ maxLen) (hm : m = n) (hcs : cs.length = n := by simp) (hZ : Z.length = m := by simp [madeCells, Value.cells]) :
    W.ownsRow base e 1 (.slice (some ⟨g, 0, none⟩) m m) n cs := by
  subst hm
  have e1 : splice Z 0 cs = cs := by simp [splice]; omega
  rw [e1] at h
  exact ⟨by omega, .inr ⟨g, _, cs.toArray, rfl, hg, h, Nat.le_refl _, hn, by simpa using hcs, List.take_of_length_le (by simp; omega)⟩⟩
set_option maxRecDepth 100000 in
set_option maxHeartbeats 2000000 in
/-- slices.EqualFunc at rows, by slices.Equal. -/
theorem EqualFuncR_any (v v' : Value) (ls : List (List Int)) (w : World) (h : SlRK .i64 w v ls) (h' : SlRK .i64 w v' ls) :
    Calls Tryd.prog 47 #[v, v', .func (.func 48) #[] #[]] w fun e w' => e = .returned (.bool true) ∧ Below w.heap.size w w' := by
  have hE : Enters 48 := enters_of Tryd.func48 (by kernel_rfl) rfl
  unfold Enters at hE
  have hlen : ((ls.length : Int) != ls.length) = false := by simp
  have hm := h.len
  have H := Lib.hid (And.intro h h')
  obtain ⟨a, c, rfl, -⟩ := h.open
  obtain ⟨a', c', rfl, -⟩ := h'.open
  clear h h'
  go_enter Tryd.func47, Tryd.ntmps47
  go_wp2_with fail
  go_loopw [17] (fun i wr => ∃ k : Nat, k ≤ ls.length ∧ i = .int .i64 k ∧ Below w.heap.size w wr) (fun i _ => ls.length - (intOf i).toNat)
  case atStart => exact ⟨0, Nat.zero_le _, rfl, Below.refl _ _⟩
  case round =>
    obtain ⟨k, hk, rfl, hb⟩ := hrel
    by_cases hlt : k < ls.length
    · obtain ⟨_, _, e1, _, _, _, g4⟩ := (H.out.1.later hb).open
      obtain ⟨be, oe, e2, _, gc⟩ := g4 (by omega)
      obtain ⟨rv, ce1, hrv⟩ := gc k hlt
      injection e1 with e1a e1b e1c
      subst e1a e1c
      subst e2
      obtain ⟨_, _, f1, _, _, _, f4⟩ := (H.out.2.later hb).open
      obtain ⟨bf, of', f2, _, fc⟩ := f4 (by omega)
      obtain ⟨rv', cf1, hrv'⟩ := fc k hlt
      injection f1 with f1a f1b f1c
      subst f1a f1c
      subst f2
      have hq := equalI_any rv rv' _ _ wr hrv hrv'
      rw [decide_eq_true rfl] at hq
      have HQ := Lib.hid hq
      have HB := Lib.hid hb
      obtain ⟨ar, cr, rfl, -⟩ := hrv.open
      obtain ⟨ar', cr', rfl, -⟩ := hrv'.open
      have hkI : (k : Int) < ls.length := by omega
      clear gc g4 fc f4 hrv hrv' e1b f1b hb hq
      go_wp2_with fail
      refine HQ.out.mono ?_
      rintro e w2 ⟨rfl, n2, hw2⟩
      have HB2 := Lib.hid (later_trans HB.out (show Below wr.heap.size wr w2 by rw [hw2]; exact later_drewN _ _))
      clear hw2
      go_wp2_with fail
      go_roundw
      case rel => first | exact ⟨k + 1, by omega, by go_num, HB2.out⟩ | ((repeat apply Exists.intro); refine ⟨?_, rfl⟩; exact ⟨k + 1, by omega, by go_num, HB2.out⟩)
      case measure => simp [intOf]; omega
    · have HB := Lib.hid hb
      clear hb
      go_wp2_with fail
      go_ret
      exact ⟨rfl, HB.out⟩
end Go.Proofs.YtplidcbfbonjlaaDoor
