/-
  The law TrieTells, walked.
-/
import Derived.Test.YtdfnfdgkhflonaaTWakes
import Derived.Test.YtdfnfdgkhflonaaTRight
import Derived.Test.YtdfnfdgkhflonaaTSame
import Derived.Test.YtdfnfdgkhflonaaTOwn
import Derived.Test.YtdfnfdgkhflonaaTTell1
import Derived.Test.YtdfnfdgkhflonaaTApp
namespace Go.Proofs.Ytdfnfdgkhflonaa
open Go.RowKit
set_option linter.unusedVariables false

/-- What the law keeps: the trie that came in and its box, the own one and its box, and what is known and its box. -/
def TT (w : World) (vb vl va vm vk vn : Value) (B0 B Bk : List Br) (L0 L Lk : List Int) (X2 X5 X7 : Nat) (W : World) : Prop :=
  Below w.heap.size w W ∧ SlB W vb B0 ∧ SlI .u64 W vl L0 ∧ SlB W va B ∧ SlI .u64 W vm L ∧ SlB W vk Bk ∧ SlI .u64 W vn Lk ∧
    W.heap[X2]? = some (.cells #[vb, vl] 25 (0, 0)) ∧ W.heap[X5]? = some (.cells #[va, vm] 25 (0, 0)) ∧ W.heap[X7]? = some (.cells #[vk, vn] 25 (0, 0))
theorem TT.later {w : World} {vb vl va vm vk vn : Value} {B0 B Bk : List Br} {L0 L Lk : List Int} {X2 X5 X7 : Nat} {W W' : World} (h : TT w vb vl va vm vk vn B0 B Bk L0 L Lk X2 X5 X7 W) (hb : Below W.heap.size W W') : TT w vb vl va vm vk vn B0 B Bk L0 L Lk X2 X5 X7 W' := by
  obtain ⟨h1, h2, h3, h4, h5, h6, h7, h8, h9, h10⟩ := h
  exact ⟨later_trans h1 hb, h2.later hb, h3.later hb, h4.later hb, h5.later hb, h6.later hb, h7.later hb, (hb.block _ (lt_of_block h8)).trans h8, (hb.block _ (lt_of_block h9)).trans h9, (hb.block _ (lt_of_block h10)).trans h10⟩
theorem TT.six {w : World} {vb vl va vm vk vn : Value} {B0 B Bk : List Br} {L0 L Lk : List Int} {X2 X5 X7 : Nat} {W : World} (h : TT w vb vl va vm vk vn B0 B Bk L0 L Lk X2 X5 X7 W) :
    (W.cell? ⟨X2, 0, none⟩ = some vb ∧ W.cell? ⟨X2, 1, none⟩ = some vl ∧ W.cell? ⟨X5, 0, none⟩ = some va ∧ W.cell? ⟨X5, 1, none⟩ = some vm ∧ W.cell? ⟨X7, 0, none⟩ = some vk ∧ W.cell? ⟨X7, 1, none⟩ = some vn) ∧ X2 < W.heap.size ∧ X5 < W.heap.size ∧ X7 < W.heap.size := by
  obtain ⟨-, -, -, -, -, -, -, h1, h2, h3⟩ := h
  exact ⟨⟨by simpa using box_cell (i := 0) h1, by simpa using box_cell (i := 1) h1, by simpa using box_cell (i := 0) h2, by simpa using box_cell (i := 1) h2, by simpa using box_cell (i := 0) h3, by simpa using box_cell (i := 1) h3⟩, lt_of_block h1, lt_of_block h2, lt_of_block h3⟩

theorem TT.four {w : World} {vb vl va vm vk vn : Value} {B0 B Bk : List Br} {L0 L Lk : List Int} {X2 X5 X7 : Nat} {W : World} (h : TT w vb vl va vm vk vn B0 B Bk L0 L Lk X2 X5 X7 W) :
    W.cell? ⟨X5, 0, none⟩ = some va ∧ W.cell? ⟨X5, 1, none⟩ = some vm ∧ W.cell? ⟨X7, 0, none⟩ = some vk ∧ W.cell? ⟨X7, 1, none⟩ = some vn := by
  obtain ⟨⟨-, -, h1, h2, h3, h4⟩, -⟩ := h.six
  exact ⟨h1, h2, h3, h4⟩
open Classical in
theorem known_len {B Bk : List Br} {L Lk : List Int} (h : Known B Bk L Lk) : Bk.length ≤ B.length ∧ Lk.length ≤ L.length := by
  by_cases ht : TrieOk B L
  · obtain ⟨rfl, rfl⟩ := h.2.1 ht; omega
  · obtain ⟨rfl, rfl⟩ := h.2.2 ht; simp

theorem sizeK_any (vb vl : Value) (B Bk : List Br) (L Lk : List Int) (w : World) (hB : SlB w vb B) (hL : SlI .u64 w vl L) (hk : Known B Bk L Lk) :
    Calls Try.prog 46 #[.agg #[vb, vl]] w fun e w' => e = .returned (.tuple #[.int .i64 (Bk.length : Int), .int .i64 (Lk.length : Int)]) ∧ Below w.heap.size w w' := by
  refine (size_any vb vl B L w hB hL).mono ?_
  rintro e w' ⟨rfl, hb⟩
  refine ⟨?_, hb⟩
  by_cases ht : TrieOk B L
  · obtain ⟨rfl, rfl⟩ := hk.2.1 ht
    rw [if_pos ht, if_pos ht]
  · obtain ⟨rfl, rfl⟩ := hk.2.2 ht
    rw [if_neg ht, if_neg ht]
    rfl

/-- The paths: the cells of the row, and what they hold. -/
def PathsIn (W : World) (g : Nat) (vs : List Value) (xss : List (List Int)) : Prop :=
  ∀ i, (hi : i < vs.length) → (hj : i < xss.length) → W.cell? ⟨g, i, none⟩ = some vs[i] ∧ SlI .u64 W vs[i] xss[i]
theorem PathsIn.later {W W' : World} {g : Nat} {vs : List Value} {xss : List (List Int)} (h : PathsIn W g vs xss) (hb : Below W.heap.size W W') : PathsIn W' g vs xss :=
  fun i hi hj => ⟨cell_next hb (h i hi hj).1, (h i hi hj).2.later hb⟩
/-- The paths as they came in. -/
def PathsAt (w : World) (v : Value) (vs : List Value) (xss : List (List Int)) : Prop :=
  SlC w v vs ∧ vs.length = xss.length ∧ (∀ i, (hi : i < vs.length) → (hj : i < xss.length) → SlI .u64 w vs[i] xss[i]) ∧ vs.length * 24 ≤ 140737488351232
theorem PathsAt.one {w : World} {v : Value} {vs : List Value} {xss : List (List Int)} (h : PathsAt w v vs xss) : ∀ u ∈ vs, u.oneCell' = true := by
  intro u hu
  obtain ⟨i, hi, rfl⟩ := List.getElem_of_mem hu
  obtain ⟨a, c, e, -⟩ := (h.2.2.1 i hi (by have := h.2.1; omega)).open
  rw [e]
  simp [Value.oneCell']
theorem owns_first (W : World) (u : Value) (e : TypeId) : (W.alloc (.cells #[u] e)).ownsRow W.heap.size e 1 (.slice (some ⟨W.heap.size, 0, none⟩) 1 1) 1 [u] := by
  refine ⟨by simp, .inr ⟨_, _, #[u], rfl, Nat.le_refl _, box_new W _ _, by omega, by simp [maxLen], by simp, by simp⟩⟩
theorem ownsRow_pos {w : World} {base : Nat} {e : TypeId} {size : Nat} {v : Value} {n : Nat} {xs : List Value} (h : w.ownsRow base e size v n xs) (h0 : 0 < n) : ∃ g c, v = .slice (some ⟨g, 0, none⟩) n c := by
  rcases h.2 with ⟨rfl, rfl⟩ | ⟨g, cap, cur, rfl, _⟩
  · omega
  · exact ⟨_, _, rfl⟩
theorem paths_start {w W : World} {v : Value} {vs : List Value} {xss : List (List Int)} {g cap base : Nat} {e : TypeId} (hP : PathsAt w v vs xss) (hb : Below w.heap.size w W) (ho : W.ownsRow base e 1 (.slice (some ⟨g, 0, none⟩) (1 + vs.length) cap) (1 + vs.length) ([.slice none 0 0] ++ vs)) : PathsIn W g ([.slice none 0 0] ++ vs) ([[]] ++ xss) := by
  intro i hi hj
  refine ⟨(owns_cell ho (List.getElem?_eq_getElem hi)).1, ?_⟩
  match i with
  | 0 => exact SlI.nil _ _
  | i + 1 =>
    simp only [List.length_append, List.length_cons, List.length_nil] at hi hj
    have := (hP.2.2.1 i (by omega) (by omega)).later hb
    simpa using this
theorem info_row : (Try.prog.info? 23).map (fun i => (i.zero, i.size, i.bytes)) = some (some (.slice none 0 0), 1, 24) := by kernel_rfl

set_option maxRecDepth 100000 in
set_option maxHeartbeats 8000000 in
open Classical in
theorem lawTells_walk (vb vl vp : Value) (B0 : List Br) (L0 : List Int) (vs : List Value) (xss : List (List Int)) (w : World) (hB : SlB w vb B0) (hL : SlI .u64 w vl L0) (hP : PathsAt w vp vs xss) :
    Calls Try.prog 9 #[.agg #[vb, vl], vp] w fun e w' => e = .returned (.bool true) ∧ Below w.heap.size w w' := by
  obtain ⟨ab, cb, rfl, -⟩ := hB.open
  obtain ⟨al, cl, rfl, -⟩ := hL.open
  obtain ⟨B, hB6⟩ : ∃ l, B0.take (min B0.length 40) = l := ⟨_, rfl⟩
  obtain ⟨L, hL6⟩ : ∃ l, L0.take (min L0.length 60) = l := ⟨_, rfl⟩
  have hBl : B.length ≤ 40 := by rw [← hB6]; simp; omega
  have hLl : L.length ≤ 60 := by rw [← hL6]; simp; omega
  have wfB : ∀ p ∈ B, p.wf := fun p hp => hB.2 p (List.mem_of_mem_take (by rw [hB6]; exact hp))
  have wfL : ∀ x ∈ L, (Lit.int .u64 x).wf = true := fun p hp => hL.2 p (List.mem_of_mem_take (by rw [hL6]; exact hp))
  have HOwn := Lib.hid (fun V (hV : Below w.heap.size w V) => (own7_any _ _ B0 L0 V (hB.later hV) (hL.later hV)).mono (R' := fun e w' => ∃ a6 c6 a7 c7, e = .returned (.agg #[.slice a6 B.length c6, .slice a7 L.length c7]) ∧ SlB w' (.slice a6 B.length c6) B ∧ SlI .u64 w' (.slice a7 L.length c7) L ∧ Below V.heap.size V w') (by
    rintro e w' ⟨vb', vl', rfl, hob, hol, hb⟩
    rw [hB6] at hob
    rw [hL6] at hol
    obtain ⟨a6, c6, rfl⟩ := owns_shape2 hob
    obtain ⟨a7, c7, rfl⟩ := owns_shape2 hol
    exact ⟨_, _, _, _, rfl, ⟨SlT.of_owns hob, wfB⟩, SlI.of_owns hol wfL, hb⟩))
  have HB := Lib.hid hB
  have HL := Lib.hid hL
  have HWB := Lib.hid wfB
  have HWL := Lib.hid wfL
  obtain ⟨ap, cp, rfl, hp1, hp2, hp3, hp4⟩ := hP.1
  have HP := Lib.hid hP
  clear hP hp4
  clear hB hL hB6 hL6 wfB wfL
  go_enter Try.func9, Try.ntmps9
  have hb1 := later_alloc w (.cells #[.slice ab B0.length cb, .slice al L0.length cl] 25)
  have hX := box_new w #[.slice ab B0.length cb, .slice al L0.length cl] 25
  go_wp2_with fail
  refine (wakes7_any _).mono ?_
  rintro e w2 ⟨rfl, hb2⟩
  have hX2 := (hb2.block _ (lt_of_block hX)).trans hX
  have hb02 := later_trans hb1 hb2
  obtain ⟨X2, hX2e⟩ : ∃ X, w.heap.size = X := ⟨_, rfl⟩
  have x0 := box_cell (i := 0) hX2
  have x1 := box_cell (i := 1) hX2
  simp at x0 x1
  rw [hX2e] at x0 x1 hX2
  simp only [hX2e]
  have hx2l := lt_of_block hX2
  clear hX hb1 hb2
  go_wp2_with fail
  refine (HOwn.out _ hb02).mono ?_
  rintro e w3 ⟨a6, c6, a7, c7, rfl, sB, sL, hb3⟩
  have hX3 := (hb3.block _ (lt_of_block hX2)).trans hX2
  have hb03 := later_trans hb02 hb3
  clear x0 x1 hX2 hb3 hb02 hx2l
  have hX2l := lt_of_block hX3
  have hX5 := box_new w3 #[.slice a6 B.length c6, .slice a7 L.length c7] 25
  have hX2' := box_alloc hX3 (.cells #[.slice a6 B.length c6, .slice a7 L.length c7] 25)
  have hbA := later_alloc w3 (.cells #[.slice a6 B.length c6, .slice a7 L.length c7] 25)
  have hbX5 : Below w3.heap.size w3 (w3.alloc (.cells #[.slice a6 B.length c6, .slice a7 L.length c7] 25)) := hbA
  obtain ⟨X5, hX5e⟩ : ∃ X, w3.heap.size = X := ⟨_, rfl⟩
  have x0 := box_cell (i := 0) hX5
  have x1 := box_cell (i := 1) hX5
  simp at x0 x1
  go_wp2_with fail
  refine (right7_any _ _ B L _ (sB.later hbA) (sL.later hbA)).mono ?_
  rintro e w4 ⟨rfl, hb4⟩
  have hb04 := later_trans (later_trans hb03 hbA) hb4
  have sB4 := (sB.later hbA).later hb4
  have sL4 := (sL.later hbA).later hb4
  have hX2 := (hb4.block _ (lt_of_block hX2')).trans hX2'
  rw [hX5e] at hX5
  have hX5 := (hb4.block _ (lt_of_block hX5)).trans hX5
  clear x0 x1 hX3 hX2' hX2l hb03 hbA hbX5 hb4 sB sL hX5e
  have hX5l := lt_of_block hX5
  have x0 := box_cell (i := 0) hX5
  have x1 := box_cell (i := 1) hX5
  simp at x0 x1
  obtain ⟨r, hr⟩ : ∃ r, Value.bool (decide (TrieOk B L)) = r := ⟨_, rfl⟩
  rw [hr]
  have HR := Lib.hid hr
  clear hr
  go_wp2_with fail
  rename_i Q1 K1 hK1
  have HT : ∀ (V : World) (X7 : Nat) (ak : Option Addr) (ck : Nat) (an : Option Addr) (cn : Nat) (Bk : List Br) (Lk : List Int) (u22 : Value), Known B Bk L Lk → TT w (.slice ab B0.length cb) (.slice al L0.length cl) (.slice a6 B.length c6) (.slice a7 L.length c7) (.slice ak Bk.length ck) (.slice an Lk.length cn) B0 B Bk L0 L Lk X2 X5 X7 V →
      K1 { tmps := #[.agg #[.slice ab B0.length cb, .slice al L0.length cl], .slice ap vs.length cp, .pointer (some ⟨X2, 0, none⟩), undef, .bool false, .pointer (some ⟨X5, 0, none⟩), r, .pointer (some ⟨X7, 0, none⟩), undef, undef, undef, undef, undef, undef, .bool true, .bool false, .agg #[.slice ab B0.length cb, .slice al L0.length cl], .agg #[.slice a6 B.length c6, .slice a7 L.length c7], .agg #[.slice a6 B.length c6, .slice a7 L.length c7], r, .agg #[.slice none 0 0, .slice none 0 0], r, u22, undef, undef, undef, undef, undef, undef, undef, undef, undef, undef, undef, undef, undef, undef, undef, undef, undef, undef, undef, undef, undef, undef, undef, undef, undef, undef, undef, undef, undef, undef, undef, undef, undef, undef, undef, undef, undef, undef, undef, undef, undef, undef, undef, undef, undef, undef, undef, undef, undef, undef, undef, undef, undef, undef, undef, undef, undef, undef, undef, undef, undef, undef, undef, undef, undef, undef, undef, undef, undef, undef], defers := [] } V := by
    intro V X7 ak ck an cn Bk Lk u22 hk k
    refine hK1 _ _ ?_
    clear hK1 x0 x1 hX5l hX5 hX2 sB4 sL4 hb04
    obtain ⟨i0, hi, hz0, hz1, hz2⟩ := info_parts info_row
    have HK := Lib.hid hk
    clear hk
    have hPV := (HP.out.1.later k.1).slS
    have hPs := HP.out.2.2.2
    have hpn : vs.length ≤ 5864062014634 := by omega
    have hPV2 := Lib.hid (fun V' (hV : Below V.heap.size V V') => hPV.later hV)
    clear hPV hPs
    obtain ⟨⟨x0, x1, x2, x3, x4, x5⟩, hl2, hl5, hl7⟩ := k.six
    have hone := Lib.hid HP.out.one
    have hbV1 := later_alloc V (.cells #[.slice none 0 0] 23)
    have hown1 := Lib.hid (owns_first V (.slice none 0 0) 23)
    have k1 := k.later hbV1
    have HPV := Lib.hid (hPV2.out _ hbV1)
    go_wp2_with (at_builtin; refine wpList_append_sl _ rfl (.tmp 23) (.tmp 24) 69 rfl V.heap.size 23 i0 _ 1 24 Try.underlying69 hi hz0 hz1 hz2 rfl (by decide) _ _ _ rfl hown1.out _ _ _ rfl HPV.out hone.out (by unfold maxLen; omega) (by omega) (by simp) ?_; intro v6 w6 hown6 hgrow6; obtain ⟨g6, cap6, rfl⟩ := ownsRow_pos hown6 (by omega))
    have hb6 := hbV1.grown hgrow6 (by simp) (owns_above hown1.out)
    have k6 := k.later hb6
    have hpi := paths_start HP.out k6.1 hown6
    have hn6 : ([.slice none 0 0] ++ vs : List Value).length = 1 + vs.length := by simp; omega
    have hx6 : ([[]] ++ xss : List (List Int)).length = 1 + vs.length := by have := HP.out.2.1; simp; omega
    obtain ⟨us, hus⟩ : ∃ us, ([.slice none 0 0] ++ vs : List Value) = us := ⟨_, rfl⟩
    obtain ⟨yss, hyss⟩ : ∃ us, ([[]] ++ xss : List (List Int)) = us := ⟨_, rfl⟩
    rw [hus] at hpi hn6
    rw [hyss] at hpi hx6
    have HPI := Lib.hid hpi
    have HN6 := Lib.hid hn6
    have HX6 := Lib.hid hx6
    clear hpi hn6 hx6 hus hyss hown6 hgrow6 hown1 k1 HPV hPV2 x0 x1 x2 x3 x4 x5 hl2 hl5 hl7 hbV1 hb6 k
    go_loopw [27] (fun j wr => ∃ i : Nat, i ≤ 1 + vs.length ∧ i ≤ 12 ∧ j = .int .i64 i ∧ TT w (.slice ab B0.length cb) (.slice al L0.length cl) (.slice a6 B.length c6) (.slice a7 L.length c7) (.slice ak Bk.length ck) (.slice an Lk.length cn) B0 B Bk L0 L Lk X2 X5 X7 wr ∧ PathsIn wr g6 us yss) (fun j _ => 1 + vs.length - (intOf j).toNat)
    case atStart => exact ⟨0, Nat.zero_le _, by omega, rfl, k6, HPI.out⟩
    case round =>
      obtain ⟨i, hi1, hi12, rfl, k, hpi⟩ := hrel
      by_cases hlt : i < 1 + vs.length
      · obtain ⟨hc, hs⟩ := hpi i (by rw [HN6.out]; exact hlt) (by rw [HX6.out]; exact hlt)
        obtain ⟨p0, hp0⟩ : ∃ p0, yss[i]'(by rw [HX6.out]; exact hlt) = p0 := ⟨_, rfl⟩
        rw [hp0] at hs
        obtain ⟨ai, ci, e, hic, hcm, -⟩ := hs.open
        rw [e] at hs hc
        have hg6 := World.block_lt_of_cell? _ _ hc
        have HPI := Lib.hid hpi
        clear hp0 e hpi
        by_cases h12 : i = 12
        · subst h12
          obtain ⟨⟨x0, x1, x2, x3, x4, x5⟩, hl2, hl5, hl7⟩ := k.six
          go_wp2_with fail
          refine (sizeK_any _ _ B Bk L Lk _ k.2.2.2.1 k.2.2.2.2.1 HK.out).mono ?_
          rintro e wS ⟨rfl, hbS⟩
          have kS := k.later hbS
          have kT := kS.later (later_drew _)
          clear x0 x1 x2 x3 x4 x5 hl2 hl5 hl7 hbS
          have hsix := kS.six.1
          obtain ⟨⟨x0, x1, x2, x3, x4, x5⟩, hl2, hl5, hl7⟩ := kS.six
          go_wp2_with fail
          go_region_held3 (fun W' => W'.cell? ⟨X2, 0, none⟩ = some (.slice ab B0.length cb) ∧ W'.cell? ⟨X2, 1, none⟩ = some (.slice al L0.length cl) ∧ W'.cell? ⟨X5, 0, none⟩ = some (.slice a6 B.length c6) ∧ W'.cell? ⟨X5, 1, none⟩ = some (.slice a7 L.length c7) ∧ W'.cell? ⟨X7, 0, none⟩ = some (.slice ak Bk.length ck) ∧ W'.cell? ⟨X7, 1, none⟩ = some (.slice an Lk.length cn))
            (first | exact hsix | exact kO.six.1 | exact kZ.six.1 | assumption)
            (first
              | (go_at_call 36; refine (HOwn.out _ kT.1).mono ?_; rintro e wO ⟨aO, cO, aP, cP, rfl, sO, sP, hbO⟩; have kO := kT.later hbO)
              | (go_at_call 39; refine (same7_any _ _ _ _ B B L L _ kO.2.2.2.1 kO.2.2.2.2.1 sO sP).mono ?_; rintro e wZ ⟨rfl, hbZ⟩; have kZ := kO.later hbZ))
          all_goals go_wp2_with fail
          all_goals go_ret
          all_goals exact ⟨by simp, kZ.1⟩
        · obtain ⟨m, hm⟩ : ∃ m, min p0.length 4 = m := ⟨_, rfl⟩
          have hmp : m ≤ p0.length := by omega
          have hm4 : m ≤ 4 := by omega
          have hmc : m ≤ ci := by omega
          have hmin : Value.int .i64 (if (4 : Int) < p0.length then (4 : Int) else (p0.length : Int)) = .int .i64 (m : Int) := by rw [show (if (4 : Int) < p0.length then (4 : Int) else (p0.length : Int)) = (m : Int) from by split <;> omega]
          have HPC := Lib.hid (SlI.cut2 (k := .u64) hs hmp)
          have hi11 : i < 12 := by omega
          have hne : ((i : Int) == 12) = false := beq_eq_false_iff_ne.2 (by omega)
          obtain ⟨⟨x0, x1, x2, x3, x4, x5⟩, hl2, hl5, hl7⟩ := k.six
          clear hs hm h12
          go_wp2_with fail
          refine (keysAll_any _ _ _ B Bk L Lk _ _ k.2.2.2.1 k.2.2.2.2.1 HPC.out HK.out (by omega)).mono ?_
          rintro e w1 ⟨v1, rfl, ho1, hb1⟩
          have k1 := k.later hb1
          have HP1 := Lib.hid (HPC.out.later hb1)
          have HO1 := Lib.hid ho1
          obtain ⟨a1, c1, rfl⟩ := owns_shape2 ho1
          have k2 := k1.later (later_drew _)
          clear x0 x1 x2 x3 x4 x5 hl2 hl5 hl7 ho1
          obtain ⟨⟨x0, x1, x2, x3, x4, x5⟩, hl2, hl5, hl7⟩ := k1.six
          have hfour := k1.four
          have HWK := Lib.hid (keysL_wf k.2.2.2.2.2.1.2 k.2.2.2.2.2.2.1.2 (p0.take m))
          have HKN := Lib.hid (known_len HK.out)
          obtain ⟨pl, hpl⟩ : ∃ pl, p0.take m = pl := ⟨_, rfl⟩
          rw [hpl] at HPC HP1 HO1 HWK ⊢
          obtain ⟨kx, hkx⟩ : ∃ kx, keysL Bk Lk pl = kx := ⟨_, rfl⟩
          have HKX := Lib.hid hkx
          rw [hkx] at HO1 HWK ⊢
          clear hpl hkx
          go_wp2_with fail
          go_region_held3 (fun W' => W'.cell? ⟨X5, 0, none⟩ = some (.slice a6 B.length c6) ∧ W'.cell? ⟨X5, 1, none⟩ = some (.slice a7 L.length c7) ∧ W'.cell? ⟨X7, 0, none⟩ = some (.slice ak Bk.length ck) ∧ W'.cell? ⟨X7, 1, none⟩ = some (.slice an Lk.length cn))
            (first | exact hfour | exact kR.four | exact kE.four | exact kH.four | exact kG.four | assumption)
            (first
              | (go_at_call 43; refine (refkeysAll_any _ _ _ Bk Lk _ _ k2.2.2.2.2.2.1 k2.2.2.2.2.2.2.1 (HP1.out.later (later_drew _)) HK.out.1 (by have := HKN.out; omega)).mono ?_; rintro e wR ⟨vR, rfl, oR, hbR⟩; rw [HKX.out] at oR; obtain ⟨aR, cR, rfl⟩ := owns_shape2 oR; have kR := k2.later hbR; have pR := (HP1.out.later (later_drew _)).later hbR)
              | (go_at_call 24; refine (equal_any _ _ kx kx _ (SlI.of_owns (owns_later (owns_later HO1.out (later_drew _)) hbR) HWK.out) (SlI.of_owns oR HWK.out)).mono ?_; rintro e wE ⟨rfl, nE, hwE⟩; have hbE : Below wR.heap.size wR wE := (by rw [hwE]; exact later_drewN _ nE); have kE := kR.later (W' := wE) (by rw [hwE]; exact later_drewN _ nE); have pE := pR.later (w' := wE) (by rw [hwE]; exact later_drewN _ nE); have oE := (show wE.ownsRow _ _ _ _ _ _ from by rw [hwE]; exact owns_drewN (owns_later (owns_later HO1.out (later_drew _)) hbR) nE); clear hwE)
              | (go_at_call 44; refine (hasAll_any _ _ _ B Bk L Lk pl _ kE.2.2.2.1 kE.2.2.2.2.1 pE HK.out (by omega)).mono ?_; rintro e wH ⟨rfl, hbH⟩; have kH := kE.later hbH; have pH := pE.later hbH; have oH := owns_later oE hbH)
              | (go_at_call 44; refine (hasAll_any _ _ _ B Bk L Lk pl _ kG.2.2.2.1 kG.2.2.2.2.1 pG HK.out (by omega)).mono ?_; rintro e wH ⟨rfl, hbH⟩; have kH := kG.later hbH; have pH := pG.later hbH; have oH := owns_later oG hbH)
              | (go_at_call 45; refine (refhasAll_any _ _ _ Bk Lk pl _ kH.2.2.2.2.2.1 kH.2.2.2.2.2.2.1 pH HK.out.1).mono ?_; rintro e wG ⟨rfl, hbG⟩; have kG := kH.later hbG; have pG := pH.later hbG; have oG := owns_later oH hbG)
              | (go_at_call 45; refine (refhasAll_any _ _ _ Bk Lk pl _ kE.2.2.2.2.2.1 kE.2.2.2.2.2.2.1 pE HK.out.1).mono ?_; rintro e wG ⟨rfl, hbG⟩; have kG := kE.later hbG; have pG := pE.later hbG; have oG := owns_later oE hbG))
          all_goals (
            have kZ : TT w (.slice ab B0.length cb) (.slice al L0.length cl) (.slice a6 B.length c6) (.slice a7 L.length c7) (.slice ak Bk.length ck) (.slice an Lk.length cn) B0 B Bk L0 L Lk X2 X5 X7 _ ∧ World.ownsRow _ wr.heap.size 38 1 (.slice a1 kx.length c1) kx.length (kx.map (.int .u64)) ∧ Below wr.heap.size wr _ := (by first | exact ⟨kG, oG, later_trans (later_trans (later_trans (later_trans hb1 (later_drew _)) hbR) hbE) (later_trans hbH hbG)⟩ | exact ⟨kH, oH, later_trans (later_trans (later_trans (later_trans hb1 (later_drew _)) hbR) hbE) (later_trans hbG hbH)⟩)
            obtain ⟨kY, oY, bY⟩ := kZ)
          have HBY := Lib.hid bY
          clear kE pE oE kH pH oH kG pG oG k2 k1 kR pR oR hb1 hbR hbE hbH hbG bY
          obtain ⟨wo, rfl⟩ : ∃ W, W = wr := ⟨wr, rfl⟩
          have hkl : kx.length ≤ 1048576 := by have := keysL_len (B := Bk) (L := Lk) (b := 40) (l := 60) (by have := HKN.out; omega) (by have := HKN.out; omega) pl; rw [HKX.out] at this; omega
          go_wp2_with fail
          go_loopw [59] (fun q wi => ∃ n : Nat, n ≤ kx.length ∧ q = .int .i64 n ∧ ∃ ys : List Int, ys.length = kx.length ∧ wi.ownsRow wo.heap.size 38 1 (.slice a1 kx.length c1) kx.length (ys.map (.int .u64)) ∧ Below wo.heap.size wo wi) (fun q _ => kx.length - (intOf q).toNat)
          case atStart => exact ⟨0, Nat.zero_le _, rfl, kx, rfl, oY, HBY.out⟩
          case round =>
            obtain ⟨n, hn, rfl, ys, hys, ho, hb⟩ := hrel
            by_cases hnl : n < kx.length
            · obtain ⟨g1, c9, e⟩ := ownsRow_pos ho (by omega)
              cases e
              obtain ⟨hc1, hf1⟩ := owns_cell (j := n) (u := .int .u64 (ys[n]'(by omega))) ho (by simp [show n < ys.length from by omega])
              have hgo : wo.heap.size ≤ g1 := owns_above ho g1 rfl
              obtain ⟨y, hy⟩ : ∃ y, ys[n]'(by omega) = y := ⟨_, rfl⟩
              rw [hy] at hc1
              have HHO := Lib.hid ho
              have HHB := Lib.hid hb
              clear ho hb hy
              go_wp2_with fail
              go_roundw
              case rel =>
                refine ⟨n + 1, by omega, by go_num, ys.set n (IntKind.u64.wrap (y + 1)), by simpa using hys, ?_, later_set HHB.out hgo _⟩
                rw [List.map_set]
                exact owns_set HHO.out _
              case measure => simp [intOf]; omega
            · obtain rfl : n = kx.length := by omega
              go_wp2_with fail
              go_roundw
              case rel => exact ⟨i + 1, by omega, by omega, by go_num, k.later hb, HPI.out.later hb⟩
              case measure => simp [intOf]; omega
      · have HPI := Lib.hid hpi
        clear hpi
        obtain ⟨⟨x0, x1, x2, x3, x4, x5⟩, hl2, hl5, hl7⟩ := k.six
        go_wp2_with fail
        refine (sizeK_any _ _ B Bk L Lk _ k.2.2.2.1 k.2.2.2.2.1 HK.out).mono ?_
        rintro e wS ⟨rfl, hbS⟩
        have kS := k.later hbS
        have kT := kS.later (later_drew _)
        clear x0 x1 x2 x3 x4 x5 hl2 hl5 hl7 hbS
        have hsix := kS.six.1
        obtain ⟨⟨x0, x1, x2, x3, x4, x5⟩, hl2, hl5, hl7⟩ := kS.six
        go_wp2_with fail
        go_region_held3 (fun W' => W'.cell? ⟨X2, 0, none⟩ = some (.slice ab B0.length cb) ∧ W'.cell? ⟨X2, 1, none⟩ = some (.slice al L0.length cl) ∧ W'.cell? ⟨X5, 0, none⟩ = some (.slice a6 B.length c6) ∧ W'.cell? ⟨X5, 1, none⟩ = some (.slice a7 L.length c7) ∧ W'.cell? ⟨X7, 0, none⟩ = some (.slice ak Bk.length ck) ∧ W'.cell? ⟨X7, 1, none⟩ = some (.slice an Lk.length cn))
          (first | exact hsix | exact kO.six.1 | exact kZ.six.1 | assumption)
          (first
            | (go_at_call 36; refine (HOwn.out _ kT.1).mono ?_; rintro e wO ⟨aO, cO, aP, cP, rfl, sO, sP, hbO⟩; have kO := kT.later hbO)
            | (go_at_call 39; refine (same7_any _ _ _ _ B B L L _ kO.2.2.2.1 kO.2.2.2.2.1 sO sP).mono ?_; rintro e wZ ⟨rfl, hbZ⟩; have kZ := kO.later hbZ))
        all_goals go_wp2_with fail
        all_goals go_ret
        all_goals exact ⟨by simp, kZ.1⟩
  by_cases ht : TrieOk B L
  · have hr : Value.bool true = r := by rw [← HR.out, decide_eq_true ht]
    subst hr
    have HTT := Lib.hid ht
    have HTO := Lib.hid HT
    have hkn : Known B B L L := ⟨ht, fun _ => ⟨rfl, rfl⟩, fun h => absurd ht h⟩
    have HKN := Lib.hid hkn
    clear ht HT hK1 hkn
    have hb5 := later_trans hb04 (later_alloc w4 (.cells #[.slice a6 B.length c6, .slice a7 L.length c7] 25))
    go_wp2_with fail
    exact HTO.out _ _ _ _ _ _ B L _ HKN.out ⟨hb5, HB.out.later hb5, HL.out.later hb5, sB4.later (later_alloc _ _), sL4.later (later_alloc _ _), sB4.later (later_alloc _ _), sL4.later (later_alloc _ _), box_alloc hX2 _, box_alloc hX5 _, box_new w4 _ _⟩
  · have hr : Value.bool false = r := by rw [← HR.out, decide_eq_false ht]
    subst hr
    have hkn : Known B [] L [] := ⟨trieOk_nil, fun h => absurd h ht, fun _ => ⟨rfl, rfl⟩⟩
    have HTO := Lib.hid HT
    have HKN := Lib.hid hkn
    clear ht HT hK1 hkn
    have hb5 := later_trans hb04 (later_alloc w4 (.cells #[.slice none 0 0, .slice none 0 0] 25))
    go_wp2_with fail
    exact HTO.out _ _ _ _ _ _ [] [] _ HKN.out ⟨hb5, HB.out.later hb5, HL.out.later hb5, sB4.later (later_alloc _ _), sL4.later (later_alloc _ _), SlB.nil _, SlI.nil _ _, box_alloc hX2 _, box_alloc hX5 _, box_new w4 _ _⟩
end Go.Proofs.Ytdfnfdgkhflonaa
