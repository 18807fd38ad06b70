/-
  hyper.Left, Acyclic and Tree, walked.
-/
import Derived.Maps.RangeWalk
import Derived.Test.YtplidcbfbonjlaaDoorHzRed
import Derived.Test.YtplidcbfbonjlaaDoorHzSort
namespace Go.Proofs.YtplidcbfbonjlaaDoor
open Go.RowKit Go.Maps Go.Lib Go.Shelf
set_option linter.unusedVariables false
set_option linter.unusedSimpArgs false

theorem eachL_bound (s : Nat) : ∀ x ∈ eachL s, 0 ≤ x ∧ x < 64 := fun x hx => by
  unfold eachL at hx
  obtain ⟨i, hi, rfl⟩ := List.mem_map.1 hx
  have := List.mem_range.1 (List.mem_filter.1 hi).1
  omega
/-- These are the edges that are left, in order. -/
def LeftR (E : List Nat) (out : List (List Int)) : Prop := ∃ c, LeftOf E c ∧ RiseC out ∧ ∀ x, x ∈ out ↔ ∃ s ∈ c, x = eachL s
theorem LeftR.unique {E : List Nat} {o1 o2 : List (List Int)} (h1 : LeftR E o1) (h2 : LeftR E o2) : o1 = o2 := by
  obtain ⟨c1, l1, r1, m1⟩ := h1
  obtain ⟨c2, l2, r2, m2⟩ := h2
  refine riseC_unique r1 r2 fun x => ?_
  rw [m1, m2]
  constructor
  · rintro ⟨s, hs, e⟩; exact ⟨s, l1.sub l2 s hs, e⟩
  · rintro ⟨s, hs, e⟩; exact ⟨s, l2.sub l1 s hs, e⟩
/-- What Left tells. -/
structure LeftP (m : Int) (ls out : List (List Int)) : Prop where
  yes : hypB m ls = true → LeftR (ls.map setL) out
  no : hypB m ls = false → out = []
theorem LeftP.unique {m : Int} {ls o1 o2 : List (List Int)} (h1 : LeftP m ls o1) (h2 : LeftP m ls o2) : o1 = o2 := by
  cases h : hypB m ls with
  | true => exact (h1.yes h).unique (h2.yes h)
  | false => rw [h1.no h, h2.no h]
theorem eachL_inj {s t : Nat} (hs : s < 2 ^ 64) (ht : t < 2 ^ 64) (h : eachL s = eachL t) : s = t := by
  have sub : ∀ {a b : Nat}, a < 2 ^ 64 → b < 2 ^ 64 → eachL a = eachL b → Sub a b := fun {a b} ha hb e v hv => by
    have : (v : Int) ∈ eachL a := (eachL_mem ha).2 ⟨by omega, by rwa [Int.toNat_natCast]⟩
    rw [e] at this
    have := ((eachL_mem hb).1 this).2
    rwa [Int.toNat_natCast] at this
  exact (sub hs ht h).anti (sub ht hs h.symm)
/-- Rows told while the sets are gone through. -/
structure ToldI (L : List (Option Nat)) (left : Lit → Bool) (xs : List (List Int)) : Prop where
  nod : xs.Nodup
  mem : ∀ x, x ∈ xs ↔ ∃ i s : Nat, L[i]? = some (some s) ∧ left (.int .i64 (i : Int)) = false ∧ x = eachL s
theorem ToldI.start {L : List (Option Nat)} {left : Lit → Bool} (h : ∀ i s : Nat, L[i]? = some (some s) → left (.int .i64 (i : Int)) = true) : ToldI L left [] :=
  ⟨List.nodup_nil, fun x => ⟨fun q => absurd q List.not_mem_nil, fun ⟨i, s, h1, h2, _⟩ => by rw [h i s h1] at h2; cases h2⟩⟩
theorem ToldI.next {L : List (Option Nat)} {left : Lit → Bool} {xs : List (List Int)} (h : ToldI L left xs) (hirr : Irr (cur L)) (h64 : ∀ i s : Nat, L[i]? = some (some s) → s < 2 ^ 64) {i s : Nat} (hi : L[i]? = some (some s)) (hl : left (.int .i64 (i : Int)) = true) :
    ToldI L (fun z => left z && !z.sameKey (.int .i64 (i : Int))) (xs ++ [eachL s]) := by
  have seen : ∀ j : Nat, (left (.int .i64 (j : Int)) && !(Lit.int .i64 (j : Int)).sameKey (.int .i64 (i : Int))) = false ↔ (left (.int .i64 (j : Int)) = false ∨ j = i) := fun j => by
    rw [sameKey_int]
    by_cases e : j = i
    · simp [e]
    · simp [e]
  refine ⟨?_, fun x => ?_⟩
  · rw [List.nodup_append]
    refine ⟨h.nod, by simp, fun x hx y hy e => ?_⟩
    obtain rfl := List.mem_singleton.1 hy
    obtain ⟨j, t, h1, h2, h3⟩ := (h.mem x).1 hx
    have hst : s = t := eachL_inj (h64 i s hi) (h64 j t h1) (by rw [← e, h3])
    subst hst
    have hne : j ≠ i := fun q => by rw [q, hl] at h2; cases h2
    have hp := hirr.apart
    rw [cur_at hi] at hp
    rcases mem_rest.2 ⟨j, hne, h1⟩ with hm | hm
    · exact ((List.pairwise_append.1 hp).2.2 s hm s (List.mem_cons_self ..)).1 (Sub.refl s)
    · exact ((List.pairwise_cons.1 (List.pairwise_append.1 hp).2.1).1 s hm).1 (Sub.refl s)
  · rw [List.mem_append, h.mem, List.mem_singleton]
    constructor
    · rintro (⟨j, t, h1, h2, h3⟩ | rfl)
      · exact ⟨j, t, h1, (seen j).2 (.inl h2), h3⟩
      · exact ⟨i, s, hi, (seen i).2 (.inr rfl), rfl⟩
    · rintro ⟨j, t, h1, h2, h3⟩
      rcases (seen j).1 h2 with q | q
      · exact .inl ⟨j, t, h1, q, h3⟩
      · subst q
        rw [hi] at h1
        cases h1
        exact .inr h3
/-- All told, and put in order. -/
theorem ToldI.done {E : List Nat} {L : List (Option Nat)} {left : Lit → Bool} {xs ys : List (List Int)} (h : ToldI L left xs) (hL : LeftOf E (cur L)) (hl : ∀ kl, left kl = false) (hm : ∀ x, x ∈ ys ↔ x ∈ xs) (hp : ys.Perm xs) (hs : ∀ i j, i < j → j < ys.length → cmpL (rowN ys j) (rowN ys i) ≠ -1) : LeftR E ys := by
  refine ⟨cur L, hL, ?_, fun x => ?_⟩
  · have hnod : ys.Nodup := hp.nodup_iff.2 h.nod
    unfold RiseC
    rw [List.pairwise_iff_getElem]
    intro i j hi hj hij
    have h1 := hs i j hij hj
    rw [rowN_at hi, rowN_at hj] at h1
    have hne : ys[i] ≠ ys[j] := (List.pairwise_iff_getElem.1 hnod) i j hi hj hij
    rcases cmpL_cases ys[i] ys[j] with e | e | e
    · exact e
    · exact absurd (cmpL_eq e) hne
    · exact absurd (by rw [cmpL_neg ys[i], e]) h1
  · rw [hm, h.mem]
    constructor
    · rintro ⟨i, s, h1, -, h3⟩; exact ⟨s, mem_cur.2 ⟨i, h1⟩, h3⟩
    · rintro ⟨s, h1, h3⟩
      obtain ⟨i, hi⟩ := mem_cur.1 h1
      exact ⟨i, s, hi, hl _, h3⟩
theorem own_cells {W : World} {base size n k : Nat} {e : TypeId} {v : Value} {xs : List Value} (h : W.ownsRow base e size v n xs) (hk : v.ownBlock = some k) : ∃ cs t fr, W.heap[k]? = some (.cells cs t fr) := by
  rcases h.2 with ⟨rfl, _⟩ | ⟨g, cap, cu, rfl, hg', hh, r⟩
  · cases hk
  · cases hk; exact ⟨_, _, _, hh⟩
theorem ranges_map {w : World} {k : TypeId} {R : Value → Option (DataW Value × List MemPlace)} {b r n cnt : Nat} {D : DataW Value} {left : Lit → Bool} (h : w.ranges Tryd.prog k R b r n D left cnt) : ∀ cs t fr, w.heap[b]? ≠ some (.cells cs t fr) := fun cs t fr q => by
  obtain ⟨es, clock, since, seen, c0, hb, _⟩ := h
  rw [hb] at q
  cases q
/-- The loop stays where it is while a row of cells grows. -/
theorem ranges_own {w w' : World} {k : TypeId} {R : Value → Option (DataW Value × List MemPlace)} {b r n cnt : Nat} {D : DataW Value} {left : Lit → Bool} {base size m : Nat} {e : TypeId} {v : Value} {xs : List Value} (h : w.ranges Tryd.prog k R b r n D left cnt) (ho : w.ownsRow base e size v m xs) (hg : w.grownBy w' v.ownBlock) : w'.ranges Tryd.prog k R b r n D left cnt :=
  h.kept hg (fun q => by obtain ⟨cs, t, fr, hh⟩ := own_cells ho q.symm; exact ranges_map h _ _ _ hh) (fun q => by obtain ⟨cs, t, fr, hh⟩ := own_cells ho q.symm; exact ranges_noCells h _ _ _ hh)
theorem OwnRK.not {k : IntKind} {et rt : TypeId} {base b : Nat} {W W' : World} {v : Value} {ps : List (Value × List Int)} (h : OwnRK k et rt base W v ps) (hg : W.grownBy W' (some b)) (hb : ∀ cs t fr, W.heap[b]? ≠ some (.cells cs t fr)) : OwnRK k et rt base W' v ps :=
  ⟨own_not h.own hg hb, fun p hp => ⟨own_not (h.rows p hp).1 hg hb, (h.rows p hp).2⟩⟩
set_option maxRecDepth 100000 in
set_option maxHeartbeats 8000000 in
theorem Left_any (m : Int) (ev : Value) (ls : List (List Int)) (w : World) (h : SlRK .i64 w ev ls) (hT : TabW w) :
    Calls Tryd.prog 14 #[hypV m ev] w fun e w' => ∃ v' out, e = .returned v' ∧ SlRK .i64 w' v' out ∧ LeftP m ls out ∧ Below w.heap.size w w' := by
  obtain ⟨i0, hi, hz0, hz1, hz2⟩ := info_parts info_rowI
  obtain ⟨W0, hW0⟩ : ∃ W, W = w.alloc (.cells #[.int .i64 m, ev] 24) := ⟨_, rfl⟩
  have b0 : Below w.heap.size w W0 := by rw [hW0]; exact later_alloc _ _
  have bH : HB W0 w.heap.size m ev := by rw [hW0]; exact box_new _ _ _
  have hC := hyperCheck_any m ev ls W0 (h.later b0)
  have HC := Lib.hid hC
  obtain ⟨ae, ce, rfl, -⟩ := h.open
  have x0 := box_cell (i := 0) bH
  have x1 := box_cell (i := 1) bH
  have lX := lt_of_block bH
  simp at x0 x1
  obtain ⟨rg, hrg⟩ : ∃ b, hypB m ls = b := ⟨_, rfl⟩
  have H0 := Lib.hid (And.intro h (And.intro hT (And.intro b0 (And.intro bH hrg))))
  rw [hrg] at HC
  clear h hT b0 bH hrg hC
  go_enter Tryd.func14, Tryd.ntmps14
  go_wp2_with fail
  rw [← hW0]
  clear hW0
  refine HC.out.mono ?_
  rintro e W1 ⟨rfl, b1⟩
  clear x0 x1 lX
  have bH1 := kept b1 H0.out.2.2.2.1
  have x0 := box_cell (i := 0) bH1
  have x1 := box_cell (i := 1) bH1
  have lX := lt_of_block bH1
  simp at x0 x1
  have b01 := later_trans H0.out.2.2.1 b1
  have H1 := Lib.hid b01
  clear bH1 b1 b01
  cases rg with
  | false =>
    simp only [Bool.false_eq_true, if_false]
    go_wp2_with fail
    go_ret
    exact ⟨_, [], rfl, SlRK.nil _ _, ⟨fun q => (by rw [H0.out.2.2.2.2] at q; cases q), fun _ => rfl⟩, H1.out⟩
  | true =>
    simp only [if_true]
    have hR := reduced_any m (.slice ae ls.length ce) ls W1 (H0.out.1.later H1.out) H0.out.2.2.2.2
    have HR := Lib.hid hR
    clear hR
    go_wp2_with fail
    refine HR.out.mono ?_
    rintro e W2 ⟨mb, pv, L, P, rfl, hS, hRd, hirr, hpv, hmb, b2⟩
    obtain ⟨pa, pc, rfl⟩ := owns_shape2 hpv
    obtain ⟨D, hD1, hD2⟩ := hS
    have hvo := hypB_ok H0.out.2.2.2.2
    have hE64 : ∀ e ∈ ls.map setL, e < 2 ^ 64 := fun e he => by
      obtain ⟨r, hr, rfl⟩ := List.mem_map.1 he
      exact setL_lt (hvo r hr)
    have h64 : ∀ i s : Nat, L[i]? = some (some s) → s < 2 ^ 64 := fun i s hi => cur_lt hRd.cof hE64 hi
    have hl40 : L.length ≤ 40 := by
      have := hRd.len
      rw [List.length_map] at this
      have := (hypB_yes H0.out.2.2.2.2).2.2.1
      omega
    have hts := ToldI.start (L := L) (left := Maps.has D) (fun i s hi => has_at hD2 hi (by omega))
    have hLO : LeftOf (ls.map setL) (cur L) := ⟨hRd.cof, hRd.keep, hirr⟩
    have hTab := H0.out.2.1.later (later_trans H1.out b2)
    have H2 := Lib.hid (And.intro hD2 (And.intro hirr (And.intro h64 (And.intro hts (And.intro hLO (And.intro hTab (And.intro b2 hl40)))))))
    clear hRd hirr hpv b2 hD2 hvo hE64 h64 hl40 hts hLO hTab x0 x1 lX
    go_wp2_with (first | (at_range; refine wpList_range_own _ rfl _ 48 rfl 3 58 lawI Tryd.underlying48 rawE mb L.length D rfl hD1 ?_; intro w0 hrg0 hg0 hs0) | go_in)
    go_frame
    have bb0 : Below W2.heap.size W2 w0 := (Below.refl _ W2).grown hg0 (Nat.le_refl _) (fun k e => by cases e)
    have HG := Lib.hid (And.intro hrg0 bb0)
    clear hrg0 hg0 hs0 bb0 hD1
    go_loopw [5] (fun v wr => ∃ (left : Lit → Bool) (cnt : Nat) (ps : List (Value × List Int)), wr.ranges Tryd.prog 3 rawE mb W2.heap.size L.length D left cnt ∧ OwnRK .i64 3 27 W2.heap.size wr v ps ∧ ToldI L left (ps.map Prod.snd) ∧ ps.length ≤ L.length - cnt ∧ cnt ≤ L.length ∧ Below W2.heap.size W2 wr) (fun _ wr => wr.rangeLeft mb W2.heap.size)
    case atStart =>
      have hsz := HG.out.1.owns.size_le
      exact ⟨_, _, [], HG.out.1, OwnRK.nil _ _ _ _ _, H2.out.2.2.2.1, Nat.zero_le _, hsz, HG.out.2⟩
    case round =>
      obtain ⟨left, cnt, ps, hrg, hO, hTo, hpl, hcl, hb⟩ := hrel
      obtain ⟨av, cv, rfl⟩ := owns_shape2 hO.own
      have HI := Lib.hid (And.intro hrg (And.intro hO (And.intro hTo (And.intro hpl (And.intro hcl hb)))))
      have hD2 := H2.out.1
      clear hO hTo hpl hcl hb
      go_wp2_with (first | (at_next; refine wpList_next_sets rfl _ rfl L mb W2.heap.size L.length D left cnt rfl hrg hD2 ?_ ?_) | go_in)
      · intro hl0
        have hSo := sortI_any HI.out.2.1 HI.out.2.2.2.2.2.size (by have := HI.out.2.2.2.1; have := H2.out.2.2.2.2.2.2.2; omega)
        have HSo := Lib.hid (And.intro hSo hl0)
        clear hrg hD2 hSo hl0
        go_wp2_with fail
        refine HSo.out.1.mono ?_
        rintro e W5 ⟨rfl, ps', hO', hmem, hsrt, hperm, b5⟩
        have hLR := HI.out.2.2.1.done H2.out.2.2.2.2.1 HSo.out.2 hmem (hperm.map Prod.snd) hsrt
        have HE := Lib.hid (And.intro hO' (And.intro hLR trivial))
        have hlen : ps'.length = ps.length := hperm.length_eq
        have hbf := later_trans (later_trans H1.out H2.out.2.2.2.2.2.2.1) (HI.out.2.2.2.2.2.trans b5)
        have HF := Lib.hid hbf
        clear hO' hmem hsrt hperm b5 hLR hbf hlen
        go_wp2_with fail
        go_ret
        exact ⟨_, _, rfl, HE.out.1.slR, ⟨fun _ => HE.out.2.1, fun q => (by rw [H0.out.2.2.2.2] at q; cases q)⟩, HF.out⟩
      · intro i s w1 cnt1 hi' hli hrg1 hlt hg1 hs1 hen
        have hO1 := HI.out.2.1.not hg1 (ranges_noCells HI.out.1)
        have hb1 := HI.out.2.2.2.2.2.grown hg1 HI.out.2.2.2.2.2.size (fun k e => by cases e; exact Nat.le_refl _)
        have hs64 := H2.out.2.2.1 i s hi'
        have hTn := HI.out.2.2.1.next H2.out.2.1 H2.out.2.2.1 hi' hli
        have hT1 := H2.out.2.2.2.2.2.1.later hb1
        have hE := eachF_any s w1
        obtain ⟨wA, hwA⟩ : ∃ W, w1.alloc (.cells #[.int .u64 (s : Int)] 58) = W := ⟨_, rfl⟩
        have bA : Below w1.heap.size w1 wA := by rw [← hwA]; exact later_alloc _ _
        have hCo := collect_each s w1.heap.size hs64 wA (by rw [← hwA]; exact box_new _ _ _) (hT1.later bA)
        rw [hwA] at hE
        have HN := Lib.hid (And.intro hO1 (And.intro hb1 (And.intro hTn (And.intro hrg1 (And.intro hlt (And.intro bA (And.intro hE (And.intro hCo (eachL_len s)))))))))
        clear hrg1 hlt hg1 hs1 hs64 hi' hli hO1 hb1 hTn hT1 hE hwA bA hCo hrg hD2
        go_wp2_with fail
        refine HN.out.2.2.2.2.2.2.1.mono ?_
        rintro e w9 ⟨rfl, h9⟩
        rw [h9]
        clear h9 w9
        go_wp2_with fail
        refine HN.out.2.2.2.2.2.2.2.1.mono ?_
        rintro e w5 ⟨vc, rfl, hvc, hwr⟩
        obtain ⟨ac, cc, rfl⟩ := owns_shape2 hvc
        have b15 := HN.out.2.2.2.2.2.1.trans (hwr.below (B := w1.heap.size) (fun b e => by rw [e]; exact Nat.le_refl _) HN.out.2.2.2.2.2.1.size)
        have hO5 := HN.out.1.later b15
        have hw15 := b15.size
        have hsz := HN.out.2.1.size
        have hOA := hO5.own.alloc (.cells #[.slice ac (eachL s).length cc] 27)
        have hpl := HI.out.2.2.2.1
        have hcl := HI.out.2.2.2.2.1
        have hl40 := H2.out.2.2.2.2.2.2.2
        have HB := Lib.hid (And.intro b15 (And.intro (owns_down hvc (show W2.heap.size ≤ wA.heap.size by have := HN.out.2.2.2.2.2.1.size; omega)) hO5))
        clear hvc hwr b15 hO5
        go_wp2_with (at_builtin; refine wpList_append_own _ rfl (.tmp 22) (.tmp 26) 22 rfl W2.heap.size 27 i0 _ 1 24 Tryd.underlying22 hi hz0 hz1 hz2 rfl (by decide) _ _ _ rfl hOA ⟨w5.heap.size, 0, none⟩ 1 1 [.slice ac (eachL s).length cc] rfl rfl (cells_new _ _ _) (by simp [Value.oneCell']) (by unfold maxLen; omega) (by omega) (by simp; omega) ?_; intro v6 w6 hown6 hgrow6 _; obtain ⟨g6, cap6, rfl⟩ := ownsRow_succ hown6)
        have hnx := OwnRK.next (by decide) HN.out.1 HB.out.1 HB.out.2.1 rfl (fun x hx => WalkArith.wf_i64 (by have := eachL_bound s x hx; omega)) hown6 hgrow6
        have hr5 := (HN.out.2.2.2.1.kept (grown_none HB.out.1) (by simp) (by simp)).alloc (.cells #[.slice ac (eachL s).length cc] 27)
        have hr6 := ranges_own hr5 hOA hgrow6
        have hb6 : Below W2.heap.size W2 w6 := (later_trans HN.out.2.1 (later_trans HB.out.1 (later_alloc _ _))).grown hgrow6 (by rw [World.size_alloc]; omega) (fun k e => owns_above hOA k e)
        refine ⟨⟨_, cnt1, _, hr6, hnx, by rw [List.map_append]; exact HN.out.2.2.1, ?_, ?_, hb6⟩, ?_⟩
        · have := HN.out.2.2.2.2.1
          rw [List.length_append]
          simp
          omega
        · have := HN.out.2.2.2.2.1; omega
        · rw [hr6.left_eq, HI.out.1.left_eq]; exact HN.out.2.2.2.2.1
/-- Is nothing left? -/
theorem Acyclic_any (m : Int) (ev : Value) (ls : List (List Int)) (w : World) (h : SlRK .i64 w ev ls) (hT : TabW w) :
    Calls Tryd.prog 13 #[hypV m ev] w fun e w' => ∃ (b : Bool) (out : List (List Int)), e = .returned (.bool b) ∧ LeftP m ls out ∧ (b = true ↔ hypB m ls = true ∧ out = []) ∧ Below w.heap.size w w' := by
  obtain ⟨W0, hW0⟩ : ∃ W, W = w.alloc (.cells #[.int .i64 m, ev] 24) := ⟨_, rfl⟩
  have b0 : Below w.heap.size w W0 := by rw [hW0]; exact later_alloc _ _
  have bH : HB W0 w.heap.size m ev := by rw [hW0]; exact box_new _ _ _
  have hC := hyperCheck_any m ev ls W0 (h.later b0)
  have hl := h.len
  obtain ⟨rg, hrg⟩ : ∃ b, hypB m ls = b := ⟨_, rfl⟩
  rw [hrg] at hC
  have HC := Lib.hid hC
  obtain ⟨ae, ce, rfl, -⟩ := h.open
  have x0 := box_cell (i := 0) bH
  have x1 := box_cell (i := 1) bH
  have lX := lt_of_block bH
  simp at x0 x1
  have H0 := Lib.hid (And.intro h (And.intro hT (And.intro b0 (And.intro bH hrg))))
  clear h hT b0 bH hC hrg
  cases rg with
  | false =>
    simp only [Bool.false_eq_true, if_false] at HC
    go_enter Tryd.func13, Tryd.ntmps13
    go_wp2_with fail
    rw [← hW0]
    clear hW0
    refine HC.out.mono ?_
    rintro e W1 ⟨rfl, b1⟩
    have H1 := Lib.hid (later_trans H0.out.2.2.1 b1)
    clear b1
    go_wp2_with fail
    go_ret
    exact ⟨_, [], rfl, ⟨fun q => (by rw [H0.out.2.2.2.2] at q; cases q), fun _ => rfl⟩, ⟨fun q => (by cases q), fun q => (by have := q.1; rw [H0.out.2.2.2.2] at this; cases this)⟩, H1.out⟩
  | true =>
    simp only [if_true] at HC
    go_enter Tryd.func13, Tryd.ntmps13
    go_wp2_with fail
    rw [← hW0]
    clear hW0
    refine HC.out.mono ?_
    rintro e W1 ⟨rfl, b1⟩
    have b01 := later_trans H0.out.2.2.1 b1
    have hL := Left_any m (.slice ae ls.length ce) ls W1 (H0.out.1.later b01) (H0.out.2.1.later b01)
    have HL := Lib.hid hL
    have bH1 := kept b1 H0.out.2.2.2.1
    clear x0 x1 lX
    have x0 := box_cell (i := 0) bH1
    have x1 := box_cell (i := 1) bH1
    have lX := lt_of_block bH1
    simp at x0 x1
    have H1 := Lib.hid b01
    clear b1 b01 hL bH1
    go_wp2_with fail
    refine HL.out.mono ?_
    rintro e W2 ⟨v', out, rfl, hv, hP, b2⟩
    obtain ⟨av, cv, rfl, -⟩ := hv.open
    have H2 := Lib.hid (And.intro hP (later_trans H1.out b2))
    obtain ⟨q, hq⟩ : ∃ q : Bool, ((out.length : Int) == 0) = q := ⟨_, rfl⟩
    have hqi : q = true ↔ out = [] := by
      rw [← hq, beq_iff_eq]
      constructor
      · intro e; exact List.eq_nil_of_length_eq_zero (by omega)
      · intro e; rw [e]; rfl
    have HQ := Lib.hid hqi
    clear hv hP b2 hqi x0 x1 lX
    cases q with
    | false =>
      go_wp2_with fail
      go_ret
      exact ⟨_, out, rfl, H2.out.1, ⟨fun q => (by cases q), fun q => HQ.out.2 q.2⟩, H2.out.2⟩
    | true =>
      go_wp2_with fail
      go_ret
      exact ⟨_, out, rfl, H2.out.1, ⟨fun q => ⟨H0.out.2.2.2.2, HQ.out.1 trivial⟩, fun _ => rfl⟩, H2.out.2⟩
/-- What Tree tells. -/
structure TreeP (m : Int) (ls : List (List Int)) (P : List Int) (no : Int) : Prop where
  bad : hypB m ls = false → no = 300 ∧ P = []
  yes : hypB m ls = true → (no = 0 ∧ ∃ L, cur L = [] ∧ RedI (ls.map setL) L P ∧ LeftOf (ls.map setL) []) ∨ (no = 301 ∧ P = [] ∧ ∃ c, c ≠ [] ∧ LeftOf (ls.map setL) c)
set_option maxRecDepth 100000 in
set_option maxHeartbeats 4000000 in
theorem Tree_any (m : Int) (ev : Value) (ls : List (List Int)) (w : World) (h : SlRK .i64 w ev ls) :
    Calls Tryd.prog 10 #[hypV m ev] w fun e w' => ∃ (v' : Value) (P : List Int) (no : Int), e = .returned (.tuple #[v', .int .i64 no]) ∧ w'.ownsRow w.heap.size 3 1 v' P.length (P.map (.int .i64)) ∧ TreeP m ls P no ∧ Below w.heap.size w w' := by
  obtain ⟨i0, hi, hz0, hz1, hz2⟩ := info_parts info_int
  obtain ⟨W0, hW0⟩ : ∃ W, W = w.alloc (.cells #[.int .i64 m, ev] 24) := ⟨_, rfl⟩
  have b0 : Below w.heap.size w W0 := by rw [hW0]; exact later_alloc _ _
  have bH : HB W0 w.heap.size m ev := by rw [hW0]; exact box_new _ _ _
  have hC := hyperCheck_any m ev ls W0 (h.later b0)
  obtain ⟨rg, hrg⟩ : ∃ b, hypB m ls = b := ⟨_, rfl⟩
  rw [hrg] at hC
  have HC := Lib.hid hC
  obtain ⟨ae, ce, rfl, -⟩ := h.open
  have x0 := box_cell (i := 0) bH
  have x1 := box_cell (i := 1) bH
  have lX := lt_of_block bH
  simp at x0 x1
  have H0 := Lib.hid (And.intro h (And.intro b0 (And.intro bH hrg)))
  clear h b0 bH hC hrg
  go_enter Tryd.func10, Tryd.ntmps10
  go_wp2_with fail
  rw [← hW0]
  clear hW0
  refine HC.out.mono ?_
  rintro e W1 ⟨rfl, b1⟩
  have bH1 := kept b1 H0.out.2.2.1
  clear x0 x1 lX
  have x0 := box_cell (i := 0) bH1
  have x1 := box_cell (i := 1) bH1
  have lX := lt_of_block bH1
  simp at x0 x1
  have H1 := Lib.hid (later_trans H0.out.2.1 b1)
  clear b1 bH1
  cases rg with
  | false =>
    simp only [Bool.false_eq_true, if_false]
    go_wp2_with fail
    go_ret2
    exact ⟨_, [], 300, rfl, World.ownsRow_nil _ _ _ _, ⟨fun _ => ⟨rfl, rfl⟩, fun q => (by rw [H0.out.2.2.2] at q; cases q)⟩, H1.out⟩
  | true =>
    simp only [if_true]
    have hR := reduced_any m (.slice ae ls.length ce) ls W1 (H0.out.1.later H1.out) H0.out.2.2.2
    have HR := Lib.hid hR
    clear hR
    go_wp2_with fail
    refine HR.out.mono ?_
    rintro e W2 ⟨mb, pv, L, P, rfl, hS, hRd, hirr, hpv, hmb, b2⟩
    obtain ⟨pa, pc, rfl⟩ := owns_shape2 hpv
    obtain ⟨D, hD1, hD2⟩ := hS
    have hLO : LeftOf (ls.map setL) (cur L) := ⟨hRd.cof, hRd.keep, hirr⟩
    have hl40 : L.length ≤ 40 := by
      have := hRd.len
      rw [List.length_map] at this
      have := (hypB_yes H0.out.2.2.2).2.2.1
      omega
    have hP40 : P.length ≤ 40 := by
      have h1 := hRd.plen
      have h2 := hRd.len
      omega
    have hnl := SeM.none_left hD1 hD2 (by omega)
    obtain ⟨z, hz⟩ : ∃ z, Maps.size D = z := ⟨_, rfl⟩
    rw [hz] at hnl
    have b02 := later_trans H1.out b2
    have H2 := Lib.hid (And.intro hLO (And.intro hRd (And.intro hpv (And.intro hnl (And.intro b02 hP40)))))
    have hs2 : w.heap.size ≤ W2.heap.size := b02.size
    have hcsP := SlC.of_owns hpv
    clear hLO hRd hirr hpv b2 b02 hnl hl40 x0 x1 lX hmb hD2
    go_upto_if 20 with (first | (at_len; refine wpList_len_own _ rfl _ 48 rfl 3 58 Tryd.underlying48 rawE mb L.length D rfl hD1 ?_) | go_in)
    by_cases hz0' : z = 0
    · have hnil := H2.out.2.2.2.1.1 hz0'
      subst hz0'
      have HP : Hid (TreeP m ls P 0) := Lib.hid ⟨fun q => (by rw [H0.out.2.2.2] at q; cases q), fun _ => .inl ⟨rfl, L, hnil, H2.out.2.1, by have := H2.out.1; rwa [hnil] at this⟩⟩
      obtain ⟨no, hno⟩ : ∃ no, P.length = no := ⟨_, rfl⟩
      have HN := Lib.hid hno
      rw [hno] at hP40 hcsP
      have hP40' := hP40
      rw [hno]
      clear hnil hno hz
      go_wp2_with (first | (at_make; refine wpList_make_full W2 rfl (.tmp 22) (.tmp 22) 27 rfl w.heap.size 3 i0 (.int .i64 0) 1 Tryd.underlying27 hi hz0 hz1 .i64 .i64 _ _ no rfl rfl rfl rfl (by rw [hz2]; omega) (by unfold maxLen; omega) hs2 ?_; intro w3 hown3 hgrow3; have hblk := owns_blockI hown3; have hb3 : Below w.heap.size w w3 := H2.out.2.2.2.2.1.grown hgrow3 hs2 (fun k e => by cases e); have hcs := hcsP.later ((Below.refl _ W2).grown hgrow3 (Nat.le_refl _) (fun k e => by cases e))) | ((with_reducible show wpList _ _ _ _ _ _); refine wpList_copy_splice rfl (.tmp 24) (.tmp 25) 27 27 rfl 3 Tryd.underlying27 info1_int _ _ _ _ _ _ rfl rfl W2.heap.size 0 _ 3 hblk (P.map (Value.int .i64)) (by rw [List.length_map, HN.out]; exact (Nat.min_self _).symm) (copy_srcI hcs) (by simp [madeCells, Value.cells, HN.out]) (ints_oneCell _ _) w.heap.size w hb3 hs2 ?_; intro w5 hw5 hb5))
      go_ret2
      have hmax : no ≤ maxLen := by unfold maxLen; omega
      exact ⟨_, P, 0, rfl, by rw [HN.out]; exact copy_ownsI hw5.out hs2 hmax rfl (by rw [List.length_map, HN.out]), HP.out, hb5⟩
    · have hzp : decide (0 < z) = true := decide_eq_true (by omega)
      have HP : Hid (TreeP m ls [] 301) := Lib.hid ⟨fun q => (by rw [H0.out.2.2.2] at q; cases q), fun _ => .inr ⟨rfl, rfl, cur L, fun q => hz0' (H2.out.2.2.2.1.2 q), H2.out.1⟩⟩
      clear hz0'
      rw [hzp]
      go_wp2_with fail
      go_ret2
      exact ⟨_, [], 301, rfl, World.ownsRow_nil _ _ _ _, HP.out, H2.out.2.2.2.2.1⟩
end Go.Proofs.YtplidcbfbonjlaaDoor
