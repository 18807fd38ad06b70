/-
  hyper.reduced, walked: what is left of the edges, and the parents of those that went.
-/
import Derived.Maps.RangeWalk
import Derived.Deep.DeepCutAuto
import Derived.Test.YtplidcbfbonjlaaDoorHzMap
import Derived.Test.YtplidcbfbonjlaaDoorHzRep
import Derived.Test.YtplidcbfbonjlaaDoorHzParts
namespace Go.Proofs.YtplidcbfbonjlaaDoor
open Go.RowKit Go.Maps Go.Lib Go.Shelf
set_option linter.unusedVariables false
set_option linter.unusedSimpArgs false

/-- A row stays where a block that holds no cells turns. -/
theorem own_not {W W' : World} {base size n b : Nat} {e : TypeId} {v : Value} {xs : List Value} (h : W.ownsRow base e size v n xs) (hg : W.grownBy W' (some b)) (hb : ∀ cs t fr, W.heap[b]? ≠ some (.cells cs t fr)) : W'.ownsRow base e size v n xs := by
  refine ⟨h.1, ?_⟩
  rcases h.2 with k2 | ⟨g, cap, cu, hv, hg', hh, r⟩
  · exact .inl k2
  · exact .inr ⟨g, cap, cu, hv, hg', (hg.block g (lt_of_block hh) (fun q => by cases q; exact hb _ _ _ hh)).trans hh, r⟩
theorem SeM.noCells {w : World} {b : Nat} {L : List (Option Nat)} (h : SeM w b L) : ∀ cs t fr, w.heap[b]? ≠ some (.cells cs t fr) := fun cs t fr q => by
  obtain ⟨es, c, hh⟩ := h.isMap
  rw [hh] at q
  cases q
theorem ranges_noCells {w : World} {k : TypeId} {R : Value → Option (DataW Value × List MemPlace)} {b r n cnt : Nat} {D : DataW Value} {left : Lit → Bool} (h : w.ranges Tryd.prog k R b r n D left cnt) : ∀ cs t fr, w.heap[r]? ≠ some (.cells cs t fr) := fun cs t fr q => by
  obtain ⟨es, clock, since, seen, c0, _, _, _, _, hr, _⟩ := h
  rw [hr] at q
  cases q
theorem wpList_next_sets {w : World} {ops : Array Oper} {rest : List Oper} {o : Oper} {a : Act} {Q : Exit → Act → World → Prop} (hg : o.guard = none) (it : Operand) (hop : o.op = Op.next it false) (L : List (Option Nat)) (b r n : Nat) (D : DataW Value) (left : Lit → Bool) (cnt : Nat)
    (hit : a.eval it = .pointer (some ⟨r, 0, none⟩)) (h : w.ranges Tryd.prog 3 rawE b r n D left cnt) (hs : Says D L)
    (hDone : (∀ kl, left kl = false) → wpList Tryd.prog ops Q rest (a.put o.dst (.tuple #[.bool false])) w)
    (hMore : ∀ (i s : Nat) (w' : World) (cnt' : Nat), L[i]? = some (some s) → left (.int .i64 (i : Int)) = true → w'.ranges Tryd.prog 3 rawE b r n D (fun z => left z && !z.sameKey (.int .i64 (i : Int))) cnt' → cnt' < cnt →
      w.grownBy w' (some r) → w'.heap.size = w.heap.size → (Instr.entry (.pointer (some ⟨r, 0, none⟩))).run Tryd.prog w' = .ok (.tuple #[.int .i64 (i : Int), .int .u64 (s : Int)]) w' → wpList Tryd.prog ops Q rest (a.put o.dst (.tuple #[.bool true, .int .i64 (i : Int), .int .u64 (s : Int)])) w') :
    wpList Tryd.prog ops Q (o :: rest) a w := by
  refine wpList_next_ranges w hg it hop 3 lawI rawE (fun x : Int => Value.int .i64 x) (fun v : Value => v) (fun key kl hk => ?_) (fun v y _ => ⟨v, rfl⟩) b r n D left cnt hit h (fun _ hl => hDone hl) ?_
  · obtain ⟨x, q, -, -⟩ := Maps.keyOf_int_inv Tryd.underlying3 hk
    exact ⟨x, q⟩
  · intro x c kl y w' cnt' hk hl hv hat hrg hlt hgr hsz hen
    obtain ⟨i, s, rfl, rfl, rfl, hi⟩ := says_next hs hk hv hat
    exact hMore i s w' cnt' hi hl hrg hlt hgr hsz hen
theorem setL_at {ls : List (List Int)} {i : Nat} (h : i < ls.length) : (ls.map setL)[i]? = some (setL (rowN ls i)) := by
  rw [List.getElem?_map, List.getElem?_eq_getElem h, rowN_at h]
  rfl
theorem map_full {ls : List (List Int)} {k : Nat} (h : k = ls.length) : ((ls.take k).map fun e => some (setL e)) = (ls.map setL).map some := by
  subst h
  rw [List.take_length, List.map_map]
  rfl
theorem cur_lt {E : List Nat} {L : List (Option Nat)} (h : Cof E (cur L)) (hE : ∀ e ∈ E, e < 2 ^ 64) {i s : Nat} (hi : L[i]? = some (some s)) : s < 2 ^ 64 := by
  obtain ⟨e, he, hs⟩ := h.low s (mem_cur.2 ⟨i, hi⟩)
  refine Nat.lt_of_not_le fun hge => ?_
  obtain ⟨v, hv, hvs⟩ := Nat.exists_ge_and_testBit_of_ge_two_pow hge
  have := hs v hvs
  rw [Nat.testBit_lt_two_pow (Nat.lt_of_lt_of_le (hE e he) (Nat.pow_le_pow_right (by decide) hv))] at this
  cases this
theorem own_put {W : World} {base g n cap j : Nat} {e : TypeId} {xs : List Value} (h : W.ownsRow base e 1 (.slice (some ⟨g, 0, none⟩) n cap) n xs) (hj : j < n) (u : Value) : (W.setCell ⟨g, j, none⟩ u).ownsRow base e 1 (.slice (some ⟨g, 0, none⟩) n cap) n (xs.set j u) := by
  rcases h.2 with ⟨q, _⟩ | ⟨g', cap', cu, hv, hg, hh, h1, h2, h3, h4⟩
  · cases q
  · cases hv
    refine ⟨by rw [List.length_set]; exact h.1, .inr ⟨g, cap, _, rfl, hg, box_set hh u, h1, h2, by simpa using h3, ?_⟩⟩
    rw [← h4]
    simp [List.take_set]
theorem cur_set_len {L : List (Option Nat)} {i s s' : Nat} (h : L[i]? = some (some s)) : (cur (L.set i (some s'))).length = (cur L).length := by
  rw [cur_some (at_lt h), cur_at h]; simp
theorem cur_drop_len {L : List (Option Nat)} {i s : Nat} (h : L[i]? = some (some s)) : (cur (L.set i none)).length < (cur L).length := by
  rw [cur_none (at_lt h), cur_at h]; simp
theorem at_same {L : List (Option Nat)} {i : Nat} {o : Option Nat} (h : i < L.length) : (L.set i o)[i]? = some o := by rw [at_set h, if_pos rfl]
/-- A set that keeps nothing of the others goes. -/
theorem RedI.empty {E : List Nat} {L : List (Option Nat)} {P : List Int} (h : RedI E L P) {i s tw : Nat} (hi : L[i]? = some (some s)) (ht : TwoS L tw) (h0 : s &&& tw = 0) : RedI E (L.set i none) P := by
  have h1 := h.trim hi (sub_and s tw) (ht.lone hi)
  rw [h0] at h1
  have h2 := h1.drop (at_same (at_lt hi)) (.inl ⟨rfl, rfl⟩)
  rwa [List.set_set] at h2
theorem at_some {L : List (Option Nat)} {i : Nat} (h : i < L.length) : L[i]? = some ((L[i]?).getD none) := by rw [List.getElem?_eq_getElem h]; rfl
theorem nat_zero {d : Nat} : (d = 0 → ((d : Int) == 0) = true) ∧ (d ≠ 0 → ((d : Int) == 0) = false) :=
  ⟨fun e => by rw [e]; rfl, fun e => by rw [beq_eq_false_iff_ne]; omega⟩
set_option maxRecDepth 100000 in
theorem fr_of {v0 v1 v2 v3 v4 v7 u5 u6 u8 u9 u10 u11 u12 u13 u14 u15 u16 u17 u18 u19 u20 u21 u22 u23 u24 u25 u26 u27 u28 u29 u30 u31 u32 u33 u34 u35 u36 u37 u38 u39 u40 u41 u42 u43 u44 u45 u46 u47 u48 u49 u50 u51 u52 u53 u54 u55 u56 u57 u58 u59 u60 u61 u62 u63 u64 u65 u66 u67 u68 u69 u70 u71 u72 u73 u74 u75 u76 u77 u78 u79 u80 u81 u82 u83 u84 u85 u86 u87 u88 u89 u90 u91 u92 u93 u94 u95 u96 u97 u98 u99 u100 u101 u102 u103 u104 u105 u106 u107 : Value} : ∃ f : Nat → Value, ({ tmps := #[v0, v1, v2, v3, v4, u5, u6, v7, u8, u9, u10, u11, u12, u13, u14, u15, u16, u17, u18, u19, u20, u21, u22, u23, u24, u25, u26, u27, u28, u29, u30, u31, u32, u33, u34, u35, u36, u37, u38, u39, u40, u41, u42, u43, u44, u45, u46, u47, u48, u49, u50, u51, u52, u53, u54, u55, u56, u57, u58, u59, u60, u61, u62, u63, u64, u65, u66, u67, u68, u69, u70, u71, u72, u73, u74, u75, u76, u77, u78, u79, u80, u81, u82, u83, u84, u85, u86, u87, u88, u89, u90, u91, u92, u93, u94, u95, u96, u97, u98, u99, u100, u101, u102, u103, u104, u105, u106, u107], defers := [] } : Act) = { tmps := #[v0, v1, v2, v3, v4, f 5, f 6, v7, f 8, f 9, f 10, f 11, f 12, f 13, f 14, f 15, f 16, f 17, f 18, f 19, f 20, f 21, f 22, f 23, f 24, f 25, f 26, f 27, f 28, f 29, f 30, f 31, f 32, f 33, f 34, f 35, f 36, f 37, f 38, f 39, f 40, f 41, f 42, f 43, f 44, f 45, f 46, f 47, f 48, f 49, f 50, f 51, f 52, f 53, f 54, f 55, f 56, f 57, f 58, f 59, f 60, f 61, f 62, f 63, f 64, f 65, f 66, f 67, f 68, f 69, f 70, f 71, f 72, f 73, f 74, f 75, f 76, f 77, f 78, f 79, f 80, f 81, f 82, f 83, f 84, f 85, f 86, f 87, f 88, f 89, f 90, f 91, f 92, f 93, f 94, f 95, f 96, f 97, f 98, f 99, f 100, f 101, f 102, f 103, f 104, f 105, f 106, f 107], defers := [] } := ⟨fun i => ([undef, undef, undef, undef, undef, u5, u6, undef, u8, u9, u10, u11, u12, u13, u14, u15, u16, u17, u18, u19, u20, u21, u22, u23, u24, u25, u26, u27, u28, u29, u30, u31, u32, u33, u34, u35, u36, u37, u38, u39, u40, u41, u42, u43, u44, u45, u46, u47, u48, u49, u50, u51, u52, u53, u54, u55, u56, u57, u58, u59, u60, u61, u62, u63, u64, u65, u66, u67, u68, u69, u70, u71, u72, u73, u74, u75, u76, u77, u78, u79, u80, u81, u82, u83, u84, u85, u86, u87, u88, u89, u90, u91, u92, u93, u94, u95, u96, u97, u98, u99, u100, u101, u102, u103, u104, u105, u106, u107] : List Value).getD i undef, rfl⟩
/-- What stands at the label, and in each pass. -/
structure RdW (W0 : World) (ls : List (List Int)) (L : List (Option Nat)) (P : List Int) (pv : Value) (W : World) : Prop where
  bel : Below W0.heap.size W0 W
  sets : SeM W W0.heap.size L
  red : RedI (ls.map setL) L P
  par : W.ownsRow W0.heap.size 3 1 pv ls.length (P.map (.int .i64))
theorem RdW.parL {W0 W : World} {ls : List (List Int)} {L : List (Option Nat)} {P : List Int} {pv : Value} (h : RdW W0 ls L P pv W) : P.length = ls.length := by
  have := h.red.plen
  rwa [List.length_map] at this
theorem RdW.setL' {W0 W : World} {ls : List (List Int)} {L : List (Option Nat)} {P : List Int} {pv : Value} (h : RdW W0 ls L P pv W) : L.length = ls.length := by
  have := h.red.len
  rwa [List.length_map] at this
set_option maxRecDepth 100000 in
set_option maxHeartbeats 8000000 in
theorem reduced_any (m : Int) (ev : Value) (ls : List (List Int)) (w : World) (h : SlRK .i64 w ev ls) (hok : hypB m ls = true) :
    Calls Tryd.prog 29 #[hypV m ev] w fun e w' => ∃ (mb : Nat) (pv : Value) (L : List (Option Nat)) (P : List Int), e = .returned (.tuple #[.map (some mb), pv]) ∧ SeM w' mb L ∧ RedI (ls.map setL) L P ∧ Irr (cur L) ∧ w'.ownsRow w.heap.size 3 1 pv P.length (P.map (.int .i64)) ∧ w.heap.size ≤ mb ∧ Below w.heap.size w w' := by
  obtain ⟨m0, m32, hl40, hin⟩ := hypB_yes hok
  have hvo := hypB_ok hok
  obtain ⟨W0, hW0⟩ : ∃ W, W = w.alloc (.cells #[.int .i64 m, ev] 24) := ⟨_, rfl⟩
  have b0 : Below w.heap.size w W0 := by rw [hW0]; exact later_alloc _ _
  have bH : HB W0 w.heap.size m ev := by rw [hW0]; exact box_new _ _ _
  have s0 : W0.heap.size = w.heap.size + 1 := by rw [hW0, World.size_alloc]
  obtain ⟨W1, hW1⟩ : ∃ W, W = W0.alloc (.map #[] 0) := ⟨_, rfl⟩
  have b1 : Below W0.heap.size W0 W1 := by rw [hW1]; exact later_alloc _ _
  have hM0 : SeM W1 W0.heap.size [] := by rw [hW1]; exact SeM.made W0
  have hS := sets_any m ev ls W1 (h.later (later_trans b0 b1)) hvo (by omega)
  have HS := Lib.hid hS
  have hmm := @run_makeMap Tryd.prog
  obtain ⟨ae, ce, rfl, -⟩ := h.open
  have bH1 := kept b1 bH
  have x0 := box_cell (i := 0) bH
  have x1 := box_cell (i := 1) bH
  have lX := lt_of_block bH
  simp at x0 x1
  have hE64 : ∀ e ∈ ls.map setL, e < 2 ^ 64 := fun e he => by
    obtain ⟨r, hr, rfl⟩ := List.mem_map.1 he
    exact setL_lt (hvo r hr)
  have H0 := Lib.hid (And.intro h (And.intro hvo (And.intro hl40 (And.intro b0 (And.intro bH (And.intro s0 (And.intro b1 (And.intro hM0 (And.intro bH1 hE64)))))))))
  clear h hok hin hvo m0 m32 b0 bH b1 hM0 hS bH1 hE64 s0
  go_enter Tryd.func29, Tryd.ntmps29
  go_wp2_with fail
  rw [← hW0]
  clear hW0
  refine wp_scope_again 0 (fun μ a' W => ∃ (L : List (Option Nat)) (P : List Int) (ap : Option Addr) (cp : Nat), μ = (cur L).length ∧ RdW W0 ls L P (.slice ap ls.length cp) W ∧ ∃ f : Nat → Value, a' = { tmps := #[hypV m (.slice ae ls.length ce), .pointer (some ⟨w.heap.size, 0, none⟩), .map none, .slice none 0 0, .map (some W0.heap.size), f 5, f 6, .slice ap ls.length cp, f 8, f 9, f 10, f 11, f 12, f 13, f 14, f 15, f 16, f 17, f 18, f 19, f 20, f 21, f 22, f 23, f 24, f 25, f 26, f 27, f 28, f 29, f 30, f 31, f 32, f 33, f 34, f 35, f 36, f 37, f 38, f 39, f 40, f 41, f 42, f 43, f 44, f 45, f 46, f 47, f 48, f 49, f 50, f 51, f 52, f 53, f 54, f 55, f 56, f 57, f 58, f 59, f 60, f 61, f 62, f 63, f 64, f 65, f 66, f 67, f 68, f 69, f 70, f 71, f 72, f 73, f 74, f 75, f 76, f 77, f 78, f 79, f 80, f 81, f 82, f 83, f 84, f 85, f 86, f 87, f 88, f 89, f 90, f 91, f 92, f 93, f 94, f 95, f 96, f 97, f 98, f 99, f 100, f 101, f 102, f 103, f 104, f 105, f 106, f 107], defers := [] }) rfl ?pass (fun again => ?first)
  case first =>
    go_wp2_with fail
    rw [← hW1]
    clear hW1
    refine HS.out.mono ?_
    rintro e W2 ⟨sv, rfl, hsv, b2⟩
    obtain ⟨asv, csv, rfl⟩ := owns_shape2 hsv
    clear x0 x1 lX
    have bH2 := kept b2 H0.out.2.2.2.2.2.2.2.2.1
    have x0 := box_cell (i := 0) bH2
    have x1 := box_cell (i := 1) bH2
    have lX := lt_of_block bH2
    simp at x0 x1
    have H2 := Lib.hid (And.intro hsv (And.intro (H0.out.2.2.2.2.2.2.2.1.later b2) (And.intro (later_trans H0.out.2.2.2.2.2.2.1 b2) bH2)))
    clear hsv b2 bH2
    go_wp2_with fail
    go_loopw [22] (fun i wr => ∃ k : Nat, k ≤ ls.length ∧ i = .int .i64 k ∧ SeM wr W0.heap.size ((ls.take k).map fun e => some (setL e)) ∧ Below W0.heap.size W0 wr ∧ wr.ownsRow W1.heap.size 58 1 (.slice asv ls.length csv) ls.length (setsV ls)) (fun i _ => ls.length - (intOf i).toNat)
    case atStart => exact ⟨0, Nat.zero_le _, rfl, H2.out.2.1, H2.out.2.2.1, H2.out.1⟩
    case round =>
      obtain ⟨k, hk, rfl, hM, hb, hsv⟩ := hrel
      have hl40 := H0.out.2.2.1
      have HK := Lib.hid (And.intro hM (And.intro hb hsv))
      by_cases hkl : k < ls.length
      · obtain ⟨l', hl'⟩ : ∃ l', ls.length = l' + 1 := ⟨ls.length - 1, by omega⟩
        obtain ⟨g, cap, hgc⟩ : ∃ g cap, Value.slice asv ls.length csv = .slice (some ⟨g, 0, none⟩) ls.length cap := by
          have h1 := hsv
          rw [hl'] at h1 ⊢
          exact ownsRow_succ h1
        injection hgc with hga hgb hgc
        subst hga hgc
        obtain ⟨cs, fs⟩ := owns_cell hsv (j := k) (u := .int .u64 ((setL (rowN ls k) : Nat) : Int)) (by unfold setsV; rw [List.getElem?_map, List.getElem?_eq_getElem hkl, rowN_at hkl]; rfl)
        obtain ⟨D, hD1, hD2⟩ := hM
        have hlen : ((ls.take k).map fun e => some (setL e)).length = k := by rw [List.length_map, List.length_take]; omega
        have hsn : ((ls.take (k + 1)).map fun e => some (setL e)) = ((ls.take k).map fun e => some (setL e)) ++ [some (setL (rowN ls k))] := by
          rw [List.take_succ_eq_append_getElem hkl, List.map_append, rowN_at hkl]
          rfl
        obtain ⟨Lk, hLk⟩ : ∃ L, ((ls.take k).map fun e => some (setL e)) = L := ⟨_, rfl⟩
        rw [hLk] at hlen hsn hD1 hD2
        rw [hlen] at hD1
        obtain ⟨S, hS⟩ : ∃ S, setL (rowN ls k) = S := ⟨_, rfl⟩
        rw [hS] at cs hsn
        have hkm : k < maxLen := by unfold maxLen; omega
        have HL := Lib.hid (And.intro hlen (And.intro hsn hD2))
        clear hb hsv hl' hgb hLk hS hlen hsn hD2
        go_wp2_with (at_mapUpdate; refine wpList_mapUpdate_own _ rfl _ _ _ 48 rfl 3 58 lawI Tryd.underlying48 rawE W0.heap.size k D rfl hD1 hkm _ _ _ rfl rfl (key_of (show k < 9223372036854775808 by omega)) (.held (.int .u64 (S : Int))) [] rfl ?_; intro w1 hown1 hgrow1)
        have hs1 : SeM w1 W0.heap.size (Lk ++ [some S]) := SeM.snoc (w := wr) (by rw [HL.out.1]; exact hD1) HL.out.2.2 (by rw [HL.out.1]; omega) (by rw [HL.out.1]; exact hown1)
        have hb1 := HK.out.2.1.grown hgrow1 HK.out.2.1.size (fun k e => by cases e; exact Nat.le_refl _)
        have hv1 := own_not HK.out.2.2 hgrow1 HK.out.1.noCells
        rw [← HL.out.2.1] at hs1
        have HN := Lib.hid (And.intro hs1 (And.intro hb1 hv1))
        clear hs1 hb1 hv1 hown1 hgrow1
        go_roundw
        case rel => exact ⟨k + 1, hkl, by go_num, HN.out.1, HN.out.2.1, HN.out.2.2⟩
        case measure => simp [intOf]; omega
      · obtain rfl : k = ls.length := by omega
        rw [map_full rfl] at hM
        have bHk := kept hb H0.out.2.2.2.2.1
        clear x0 x1 lX
        have x0 := box_cell (i := 0) bHk
        have x1 := box_cell (i := 1) bHk
        have lX := lt_of_block bHk
        simp at x0 x1
        have hRp := Repeat_any (.slice (some ⟨wr.heap.size, 0, none⟩) 1 1) (-1) ls.length _ (one_slI wr (x := -1) (by decide)) (by omega)
        have HRp := Lib.hid (And.intro hRp (And.intro hM hb))
        clear hRp hM hb hsv bHk
        go_wp2_with fail
        refine HRp.out.1.mono ?_
        rintro e W5 ⟨pv, rfl, hpv, b5⟩
        obtain ⟨ap, cp, rfl⟩ := owns_shape2 hpv
        have b5' := later_trans (later_alloc wr (.cells #[.int .i64 (-1)] 3)) b5
        have hsz := HRp.out.2.2.size
        have H5 : Hid (RdW W0 ls ((ls.map setL).map some) (List.replicate (ls.map setL).length (-1)) (.slice ap ls.length cp) W5) := Lib.hid ⟨later_trans HRp.out.2.2 b5', HRp.out.2.1.later b5', RedI.start _, by
          rw [List.length_map, List.map_replicate]
          exact owns_down hpv (by rw [World.size_alloc]; omega)⟩
        clear hpv b5 b5' x0 x1 lX
        go_wp2_with fail
        apply wp_label
        rename_i hK
        refine hK _ _ (again _ _ _ ⟨_, _, ap, cp, rfl, H5.out, fr_of⟩)
  case pass =>
    rintro μ a' W ⟨L, P, ap, cp, rfl, hR, f, rfl⟩
    have hl40 := H0.out.2.2.1
    have hLl := hR.setL'
    obtain ⟨D, hD1, hD2⟩ := hR.sets
    have bW := kept hR.bel H0.out.2.2.2.2.1
    have hOS := OnceI.start (L := L) (left := Maps.has D) (fun i s hi => has_at hD2 hi (by omega))
    have HR := Lib.hid (And.intro hR (And.intro hLl (And.intro hD2 hOS)))
    clear hR hLl hD2 hOS x0 x1 lX bW
    go_wp2_with (first | (at_range; refine wpList_range_own _ rfl _ 48 rfl 3 58 lawI Tryd.underlying48 rawE W0.heap.size L.length D rfl hD1 ?_; intro w0 hrg0 hg0 hs0) | go_in)
    go_frame
    have bb0 : Below W.heap.size W w0 := (Below.refl _ W).grown hg0 (Nat.le_refl _) (fun k e => by cases e)
    have HG := Lib.hid (And.intro hrg0 (And.intro (later_trans HR.out.1.bel bb0) (owns_later HR.out.1.par bb0)))
    clear hrg0 hg0 hs0 bb0 hD1
    go_loopw [8, 9] (fun on tw wr => ∃ (a b : Nat) (left : Lit → Bool) (cnt : Nat), on = .int .u64 (a : Int) ∧ tw = .int .u64 (b : Int) ∧ wr.ranges Tryd.prog 3 rawE W0.heap.size W.heap.size L.length D left cnt ∧ OnceI L left a b ∧ Below W0.heap.size W0 wr ∧ wr.ownsRow W0.heap.size 3 1 (.slice ap ls.length cp) ls.length (P.map (.int .i64))) (fun _ _ wr => wr.rangeLeft W0.heap.size W.heap.size)
    case atStart => exact ⟨0, 0, _, _, rfl, rfl, HG.out.1, HR.out.2.2.2, HG.out.2.1, HG.out.2.2⟩
    case round =>
      obtain ⟨a, b, left, cnt, rfl, rfl, hrg, hI, hb, hpv⟩ := hrel
      have HI := Lib.hid (And.intro hrg (And.intro hI (And.intro hb hpv)))
      have hD2 := HR.out.2.2.1
      clear hI hb hpv
      go_wp2_with (first | (at_next; refine wpList_next_sets rfl _ rfl L W0.heap.size W.heap.size L.length D left cnt rfl hrg hD2 ?_ ?_) | go_in)
      · intro hl0
        have htw := HI.out.2.1.done hl0
        have bW := kept HI.out.2.2.1 H0.out.2.2.2.2.1
        have x0 := box_cell (i := 0) bW
        have x1 := box_cell (i := 1) bW
        have lX := lt_of_block bW
        simp at x0 x1
        have HT : Hid (RdW W0 ls L P (.slice ap ls.length cp) wr ∧ PassI L b 0) := Lib.hid ⟨⟨HI.out.2.2.1, ⟨D, HI.out.1.owns, hD2⟩, HR.out.1.red, HI.out.2.2.2⟩, PassI.start htw⟩
        have Hb64 := Lib.hid HI.out.2.1.lt
        clear hl0 htw bW hrg HI hD2
        go_wp2_with fail
        clear x0 x1 lX
        go_loopw [53] (fun i wr => ∃ (k : Nat) (L' : List (Option Nat)), k ≤ ls.length ∧ i = .int .i64 k ∧ RdW W0 ls L' P (.slice ap ls.length cp) wr ∧ PassI L' b k ∧ (cur L').length = (cur L).length) (fun i _ => ls.length - (intOf i).toNat)
        case atStart => exact ⟨0, L, Nat.zero_le _, rfl, HT.out.1, HT.out.2, rfl⟩
        case round =>
          obtain ⟨k, L', hk, rfl, hR, hP, hcl⟩ := hrel
          have hLl := hR.setL'
          have HK := Lib.hid (And.intro hR (And.intro hP (And.intro hcl hLl)))
          by_cases hkl : k < ls.length
          · have hk40 : k < 9223372036854775808 := by omega
            have hlook := hR.sets.look hk40
            have hat := at_some (L := L') (i := k) (by omega)
            obtain ⟨o, ho⟩ : ∃ o, (L'[k]?).getD none = o := ⟨_, rfl⟩
            rw [ho] at hlook hat
            clear hR hP hcl hLl ho
            cases o with
            | none =>
              have hlook : (Instr.lookup 48 (.map (some W0.heap.size)) (.int .i64 (k : Int)) true).run Tryd.prog wr = .ok (.tuple #[.int .u64 0, .bool false]) wr := hlook
              have HN := Lib.hid (HK.out.2.1.skip hat)
              clear hat
              go_wp2_with fail
              go_roundw
              case rel => exact ⟨k + 1, L', hkl, by go_num, HK.out.1, HN.out, HK.out.2.2.1⟩
              case measure => simp [intOf]; omega
            | some s =>
              have hlook : (Instr.lookup 48 (.map (some W0.heap.size)) (.int .i64 (k : Int)) true).run Tryd.prog wr = .ok (.tuple #[.int .u64 (s : Int), .bool true]) wr := hlook
              have hs64 : s < 2 ^ 64 := cur_lt HK.out.1.red.cof H0.out.2.2.2.2.2.2.2.2.2 hat
              have hand := bits_and_u64_nat s b hs64 Hb64.out
              have hd64 : s &&& b < 2 ^ 64 := Nat.and_lt_two_pow _ Hb64.out
              have hemp := fun h0 => HK.out.1.red.empty hat HK.out.2.1.two h0
              have hred := HK.out.1.red.trim hat (sub_and s b) (HK.out.2.1.two.lone hat)
              have hpas := HK.out.2.1.trim hat
              have hdb : Sub (s &&& b) b := sub_and' s b
              obtain ⟨d, hd⟩ : ∃ d, s &&& b = d := ⟨_, rfl⟩
              rw [hd] at hand hd64 hemp hred hpas hdb
              obtain ⟨D', hD1, hD2⟩ := HK.out.1.sets
              have HS' := Lib.hid (And.intro hat (And.intro hd64 (And.intro hemp (And.intro hred (And.intro hpas (And.intro hdb hD2))))))
              have hk40' := key_of hk40
              clear hs64 hd64 hemp hred hpas hdb hd hat hD2
              by_cases hd0 : d = 0
              · have z1 := nat_zero.1 hd0
                have HD0 := Lib.hid hd0
                clear hd0
                go_wp2_with (first | (at_delete; refine wpList_delete_own _ rfl _ _ 48 3 rfl 58 lawI Tryd.underlying48 rawE W0.heap.size L'.length D' rfl hD1 _ _ rfl hk40' ?_; intro w1 hown1 hturn1) | go_in)
                have hg1 := hturn1.grown
                have hs1 := SeM.drop HS'.out.2.2.2.2.2.2 (show k < L'.length by have := HK.out.2.2.2; omega) hown1
                have hb1 := HK.out.1.bel.grown hg1 HK.out.1.bel.size (fun k e => by cases e; exact Nat.le_refl _)
                have hp1 := own_not HK.out.1.par hg1 HK.out.1.sets.noCells
                have hc1 := cur_drop_len HS'.out.1
                have HN : Hid (RdW W0 ls (L'.set k none) P (.slice ap ls.length cp) w1 ∧ (cur (L'.set k none)).length < (cur L).length) := Lib.hid ⟨⟨hb1, hs1, HS'.out.2.2.1 HD0.out, hp1⟩, by rw [← HK.out.2.2.1]; exact hc1⟩
                clear hown1 hturn1 hg1 hs1 hb1 hp1 hc1 hlook
                go_wp2_with fail
                apply wp_goto
                show _ ∧ _
                exact ⟨rfl, _, HN.out.2, _, _, ap, cp, rfl, HN.out.1, fr_of⟩
              · have z1 := nat_zero.2 hd0
                have HD0 := Lib.hid hd0
                have hkL : k < L'.length := by have := HK.out.2.2.2; omega
                have hLm : L'.length < maxLen := by have := HK.out.2.2.2; unfold maxLen; omega
                clear hd0
                go_upto_region 23 with (first | (at_mapUpdate; refine wpList_mapUpdate_own _ rfl _ _ _ 48 rfl 3 58 lawI Tryd.underlying48 rawE W0.heap.size L'.length D' rfl hD1 hLm _ _ _ rfl rfl hk40' (.held (.int .u64 (d : Int))) [] rfl ?_; intro w1 hown1 hgrow1) | go_in)
                have hs1 := SeM.put hD1 HS'.out.2.2.2.2.2.2 hkL (by have := HK.out.2.2.2; omega) hown1
                have hb1 := HK.out.1.bel.grown hgrow1 HK.out.1.bel.size (fun k e => by cases e; exact Nat.le_refl _)
                have hp1 := own_not HK.out.1.par hgrow1 HK.out.1.sets.noCells
                have bW := kept hb1 H0.out.2.2.2.2.1
                have x0 := box_cell (i := 0) bW
                have x1 := box_cell (i := 1) bW
                have lX := lt_of_block bW
                simp at x0 x1
                have hcl1 : (cur (L'.set k (some d))).length = (cur L).length := (cur_set_len HS'.out.1).trans HK.out.2.2.1
                have hat1 := at_same (o := some d) hkL
                have hrd1 : RdW W0 ls (L'.set k (some d)) P (.slice ap ls.length cp) w1 := ⟨hb1, hs1, HS'.out.2.2.2.1, hp1⟩
                have hpa1 := HS'.out.2.2.2.2.1
                have hst1 : (L'.set k (some d)).set k none = L'.set k none := List.set_set ..
                obtain ⟨L1, hL1⟩ : ∃ L1, L'.set k (some d) = L1 := ⟨_, rfl⟩
                rw [hL1] at hcl1 hat1 hrd1 hpa1 hst1
                have HN := Lib.hid (And.intro hrd1 (And.intro hcl1 (And.intro hat1 (And.intro hpa1 (And.intro hst1 hrd1.setL')))))
                have hdb := HS'.out.2.1
                clear hown1 hgrow1 hs1 hb1 hp1 hlook bW hcl1 hat1 hrd1 hpa1 hst1 hL1 hLm hkL hD1
                go_wp2_with fail
                clear x0 x1 lX
                go_loop [77] (fun i => ∃ q : Nat, q ≤ ls.length ∧ i = .int .i64 q ∧ ∀ r u : Nat, r < q → r ≠ k → L1[r]? = some (some u) → ¬ Sub d u) (fun i => ls.length - (intOf i).toNat)
                case atStart => exact ⟨0, Nat.zero_le _, rfl, fun r u hr => by omega⟩
                case round =>
                  obtain ⟨q, hq, rfl, hno⟩ := hrel
                  have HQ := Lib.hid hno
                  by_cases hql : q < ls.length
                  · have hq40 : q < 9223372036854775808 := by omega
                    have hlook := HN.out.1.sets.look hq40
                    have hat := at_some (L := L1) (i := q) (by have := HN.out.2.2.2.2.2; omega)
                    obtain ⟨o, ho⟩ : ∃ o, (L1[q]?).getD none = o := ⟨_, rfl⟩
                    rw [ho] at hlook hat
                    clear ho hno
                    cases o with
                    | none =>
                      have hlook : (Instr.lookup 48 (.map (some W0.heap.size)) (.int .i64 (q : Int)) true).run Tryd.prog w1 = .ok (.tuple #[.int .u64 0, .bool false]) w1 := hlook
                      have HA := Lib.hid hat
                      clear hat
                      go_wp2_with fail
                      go_round
                      case rel => exact ⟨q + 1, hql, by go_num, fun r u hr hne hu => by
                        by_cases e : r = q
                        · subst e; rw [HA.out] at hu; cases hu
                        · exact HQ.out r u (by omega) hne hu⟩
                      case measure => simp [intOf]; omega
                    | some u =>
                      have hlook : (Instr.lookup 48 (.map (some W0.heap.size)) (.int .i64 (q : Int)) true).run Tryd.prog w1 = .ok (.tuple #[.int .u64 (u : Int), .bool true]) w1 := hlook
                      have hu64 : u < 2 ^ 64 := cur_lt HN.out.1.red.cof H0.out.2.2.2.2.2.2.2.2.2 hat
                      have hnot := bits_andNot_u64_nat d u hdb hu64
                      have hmz := minus_zero (s := d) (t := u)
                      obtain ⟨e1, he1⟩ : ∃ e, minus d u = e := ⟨_, rfl⟩
                      rw [he1] at hnot hmz
                      have HA := Lib.hid (And.intro hat hmz)
                      clear hat hu64 hmz he1
                      by_cases hqk : q = k
                      · have hkq := hqk.symm
                        subst hkq
                        go_wp2_with fail
                        go_round
                        case rel => exact ⟨k + 1, hql, by go_num, fun r u' hr hne hu => by
                          by_cases e : r = k
                          · exact absurd e hne
                          · exact HQ.out r u' (by omega) hne hu⟩
                        case measure => simp [intOf]; omega
                      · have HX := Lib.hid hqk
                        have y1 : ((q : Int) != (k : Int)) = true := by rw [bne_iff_ne]; omega
                        have y2 : ((q : Int) == (k : Int)) = false := by rw [beq_eq_false_iff_ne]; omega
                        have y3 : ¬ (q : Int) = k := by omega
                        clear hqk
                        by_cases he0 : e1 = 0
                        · have z2 := nat_zero.1 he0
                          have hsub : Sub d u := fun v hv => HA.out.2.1 he0 v hv
                          have hred2 := HN.out.1.red.drop HN.out.2.2.1 (.inr ⟨q, u, HX.out, HA.out.1, hsub, rfl⟩)
                          rw [HN.out.2.2.2.2.1] at hred2
                          have hlt2 := cur_drop_len HN.out.2.2.1
                          rw [HN.out.2.2.2.2.1, HN.out.2.1] at hlt2
                          have hPl := HN.out.1.parL
                          have hpv := HN.out.1.par
                          obtain ⟨l', hl'⟩ : ∃ l', ls.length = l' + 1 := ⟨ls.length - 1, by omega⟩
                          obtain ⟨g, cap, hgc⟩ : ∃ g cap, Value.slice ap ls.length cp = .slice (some ⟨g, 0, none⟩) ls.length cap := by
                            have h1 := hpv
                            rw [hl'] at h1 ⊢
                            exact ownsRow_succ h1
                          injection hgc with hga hgb hgc
                          subst hga hgc
                          obtain ⟨pk, hPk⟩ : ∃ pk, (P.map (Value.int .i64))[k]? = some pk := ⟨_, List.getElem?_eq_getElem (by rw [List.length_map, hPl]; exact hkl)⟩
                          obtain ⟨cs, fs⟩ := owns_cell hpv hPk
                          have hgB : W0.heap.size ≤ g := owns_above hpv g rfl
                          have hpv2 := own_put hpv hkl (.int .i64 (q : Int))
                          have hmap2 : (P.map (Value.int .i64)).set k (.int .i64 (q : Int)) = (P.set k (q : Int)).map (Value.int .i64) := by rw [List.map_set]
                          rw [hmap2] at hpv2
                          have hse2 : SeM (w1.setCell ⟨g, k, none⟩ (.int .i64 (q : Int))) W0.heap.size L1 := HN.out.1.sets.block (heap_setCell_other w1 ⟨g, k, none⟩ W0.heap.size _ (fun e => by
                            have e' : W0.heap.size = g := e
                            rcases hpv.2 with ⟨h1, _⟩ | ⟨g', cap', cu, hv, _, hh, _⟩
                            · cases h1
                            · cases hv
                              exact HN.out.1.sets.noCells _ _ _ (e' ▸ hh)))
                          have hb2 := below_set (i := k) (u := .int .i64 (q : Int)) HN.out.1.bel hgB
                          obtain ⟨D2, hD1, hD2⟩ := hse2
                          have HF := Lib.hid (And.intro hred2 (And.intro hlt2 (And.intro hpv2 (And.intro hb2 (And.intro hD2 (HN.out.1.sets.noCells))))))
                          have hL1n : ∀ cs t fr, (w1.setCell ⟨g, k, none⟩ (.int .i64 (q : Int))).heap[W0.heap.size]? ≠ some (.cells cs t fr) := (show SeM _ W0.heap.size L1 from ⟨D2, hD1, hD2⟩).noCells
                          have HL1n := Lib.hid hL1n
                          clear hsub hred2 hlt2 hPl hpv hl' hgb hPk hgB hpv2 hmap2 hb2 hD2 he0 hL1n
                          go_wp2_with (first | (at_delete; refine wpList_delete_own _ rfl _ _ 48 3 rfl 58 lawI Tryd.underlying48 rawE W0.heap.size L1.length D2 rfl hD1 _ _ rfl hk40' ?_; intro w2 hown2 hturn2) | go_in)
                          have hg2 := hturn2.grown
                          have hs2 := SeM.drop HF.out.2.2.2.2.1 (show k < L1.length by have := HN.out.2.2.2.2.2; omega) hown2
                          rw [HN.out.2.2.2.2.1] at hs2
                          have hb3 := HF.out.2.2.2.1.grown hg2 HF.out.2.2.2.1.size (fun k e => by cases e; exact Nat.le_refl _)
                          have hp3 := own_not HF.out.2.2.1 hg2 HL1n.out
                          have HE : Hid (RdW W0 ls (L'.set k none) (P.set k (q : Int)) (.slice (some ⟨g, 0, none⟩) ls.length cp) w2) := Lib.hid ⟨hb3, hs2, HF.out.1, hp3⟩
                          clear hown2 hturn2 hg2 hs2 hb3 hp3 hlook hnot
                          go_wp2_with fail
                          apply wp_goto
                          show _ ∧ _
                          exact ⟨rfl, _, HF.out.2.1, _, _, _, cp, rfl, HE.out, fr_of⟩
                        · have z2 := nat_zero.2 he0
                          have HY := Lib.hid he0
                          clear he0
                          go_wp2_with fail
                          go_round
                          case rel => exact ⟨q + 1, hql, by go_num, fun r u' hr hne hu => by
                            by_cases e : r = q
                            · subst e
                              rw [HA.out.1] at hu
                              cases hu
                              exact fun hs => HY.out (HA.out.2.2 hs)
                            · exact HQ.out r u' (by omega) hne hu⟩
                          case measure => simp [intOf]; omega
                  · have hpn := HN.out.2.2.2.1.next HN.out.2.2.1 HS'.out.2.2.2.2.2.1 HD0.out (fun r u hne hu => HQ.out r u (by have := at_lt hu; have := HN.out.2.2.2.2.2; omega) hne hu)
                    have HF := Lib.hid hpn
                    clear hno hpn
                    go_wp2_with fail
                    go_roundw
                    case rel => exact ⟨k + 1, L1, hkl, by go_num, HN.out.1, HF.out, HN.out.2.1⟩
                    case measure => simp [intOf]; omega
          · obtain rfl : k = ls.length := by omega
            have hirr : Irr (cur L') := by
              rw [← hLl] at hP
              exact hP.irr
            have hpl := hR.parL
            have HF := Lib.hid (And.intro hirr hpl)
            clear hR hP hcl hLl hirr hpl
            go_wp2_with fail
            simp only [Exit.jump]
            go_ret2
            exact ⟨W0.heap.size, _, L', P, rfl, HK.out.1.sets, HK.out.1.red, HF.out.1, by rw [HF.out.2]; exact owns_down HK.out.1.par (by have := H0.out.2.2.2.1.size; omega), H0.out.2.2.2.1.size, later_trans H0.out.2.2.2.1 HK.out.1.bel⟩
      · intro i s w1 cnt1 hi hli hrg1 hlt hg1 hs1 hen
        have hs64 : s < 2 ^ 64 := cur_lt HR.out.1.red.cof H0.out.2.2.2.2.2.2.2.2.2 hi
        have hnx := HI.out.2.1.next hi hli hs64
        have hand := bits_and_u64_nat a s HI.out.2.1.lo hs64
        have hor1 := bits_or_u64_nat b (a &&& s) HI.out.2.1.lt (Nat.and_lt_two_pow _ hs64)
        have hor2 := bits_or_u64_nat a s HI.out.2.1.lo hs64
        obtain ⟨d1, hd1⟩ : ∃ d, a &&& s = d := ⟨_, rfl⟩
        rw [hd1] at hand hor1 hnx
        obtain ⟨d2, hd2⟩ : ∃ d, b ||| d1 = d := ⟨_, rfl⟩
        rw [hd2] at hor1 hnx
        obtain ⟨d3, hd3⟩ : ∃ d, a ||| s = d := ⟨_, rfl⟩
        rw [hd3] at hor2 hnx
        have hb1 := HI.out.2.2.1.grown hg1 HI.out.2.2.1.size (fun k e => by cases e; exact HR.out.1.bel.size)
        have hp1 := own_not HI.out.2.2.2 hg1 (ranges_noCells HI.out.1)
        have HN := Lib.hid (And.intro hrg1 (And.intro hlt (And.intro hnx (And.intro hb1 hp1))))
        clear hi hli hrg1 hlt hg1 hs1 hs64 hnx hd1 hd2 hd3 hb1 hp1 hD2 hrg
        go_wp2_with fail
        go_roundw
        case rel => exact ⟨d3, d2, _, cnt1, rfl, rfl, HN.out.1, HN.out.2.2.1, HN.out.2.2.2.1, HN.out.2.2.2.2⟩
        case measure => rw [HN.out.1.left_eq, HI.out.1.left_eq]; exact HN.out.2.1
end Go.Proofs.YtplidcbfbonjlaaDoor
