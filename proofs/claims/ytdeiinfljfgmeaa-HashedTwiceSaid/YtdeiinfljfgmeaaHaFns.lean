/-
  hashed.kept, cells, places, key, walked.
-/
import Derived.Laws.IdiomStrings
import Derived.Test.YtdeiinfljfgmeaaHaSame
namespace Go.Proofs.Ytdeiinfljfgmeaa
open Go.RowKit
set_option linter.unusedVariables false
set_option linter.unusedSimpArgs false

/-- Rows of old memory, in a row of the call's own. -/
structure OldRows (w0 : World) (base : Nat) (W : World) (v : Value) (vs : List Value) (ls : List (List Int)) : Prop where
  own : W.ownsRow base 26 1 v vs.length vs
  len : vs.length = ls.length
  rows : ∀ r, r < ls.length → SlI .u64 w0 (vs.getD r undef) (rowN ls r)
theorem OldRows.slR {w0 W : World} {base : Nat} {v : Value} {vs : List Value} {ls : List (List Int)} (h : OldRows w0 base W v vs ls) (hb : Below w0.heap.size w0 W) : SlRK .u64 W v ls := by
  refine ⟨fun r => vs.getD r undef, ?_, fun r hr => SlI.later (h.rows r hr) hb⟩
  have e : (List.range ls.length).map (fun r => vs.getD r undef) = vs := by
    refine List.ext_getElem (by simp [h.len]) fun i h1 h2 => ?_
    simp [List.getD, h2]
  rw [e]
  exact SlC.of_owns h.own
theorem rowN_snoc (ls : List (List Int)) (x : List Int) (r : Nat) : rowN (ls ++ [x]) r = if r < ls.length then rowN ls r else if r = ls.length then x else [] := by
  unfold rowN
  simp only [List.getD_eq_getElem?_getD]
  by_cases h : r < ls.length
  · rw [if_pos h, List.getElem?_append_left h]
  · rw [if_neg h, List.getElem?_append_right (by omega)]
    by_cases h2 : r = ls.length
    · subst h2; simp
    · rw [if_neg h2]
      obtain ⟨j, hj⟩ : ∃ j, r - ls.length = j + 1 := ⟨r - ls.length - 1, by omega⟩
      rw [hj]; simp
theorem getD_snoc (vs : List Value) (x : Value) (r : Nat) (h : r < vs.length) : (vs ++ [x]).getD r undef = vs.getD r undef := by
  simp only [List.getD_eq_getElem?_getD]
  rw [List.getElem?_append_left h]
theorem getD_last (vs : List Value) (x : Value) : (vs ++ [x]).getD vs.length undef = x := by
  simp [List.getD_eq_getElem?_getD]
theorem old_oneCell {w0 : World} {rv : Value} {r : List Int} (h : SlI .u64 w0 rv r) : rv.oneCell' = true := by
  obtain ⟨a, c, rfl, -⟩ := h.open
  rfl
set_option maxRecDepth 100000 in
set_option maxHeartbeats 2000000 in
theorem keptU_any {F : Nat} {caps : Array Value} {p : List Int → Bool} {w : World} {v : Value} {ls : List (List Int)} (hF : Enters F) (h : SlRK .u64 w v ls) (hl : ls.length ≤ 1099511627776) (hA : AsksU F caps w ls p) :
    Calls Try.prog 44 #[v, .func (.func F) #[] caps] w fun e w' => ∃ v', e = .returned v' ∧ SlRK .u64 w' v' (ls.filter p) ∧ Below w.heap.size w w' := by
  obtain ⟨i0, hi, hz0, hz1, hz2⟩ := info_parts info_rowU
  have hE := hF
  unfold Enters at hE
  have H := Lib.hid (And.intro h (And.intro hl hA))
  obtain ⟨a, c, rfl, -⟩ := h.open
  clear h hl hA hF
  go_enter Try.func44, Try.ntmps44
  go_wp2_with fail
  go_loopw [5, 10] (fun v i wr => ∃ (k : Nat) (vs : List Value), k ≤ ls.length ∧ i = .int .i64 k ∧ OldRows w w.heap.size wr v vs ((ls.take k).filter p) ∧ Below w.heap.size w wr) (fun _ i _ => ls.length - (intOf i).toNat)
  case atStart => exact ⟨0, [], Nat.zero_le _, rfl, ⟨World.ownsRow_nil _ _ _ _, rfl, fun r hr => by simp at hr⟩, Below.refl _ _⟩
  case round =>
    obtain ⟨k, vs, hk, rfl, hO, hb⟩ := hrel
    by_cases hlt : k < ls.length
    · obtain ⟨_, _, e1, _, _, _, g4⟩ := H.out.1.open
      obtain ⟨be, oe, e2, _, gc⟩ := g4 (by omega)
      obtain ⟨rv, ce0, hrv⟩ := gc k hlt
      injection e1 with e1a e1b e1c
      subst e1a e1c
      subst e2
      have ce1 := cell_next hb ce0
      have hAs := H.out.2.2 k hlt rv wr hb (SlI.later hrv hb)
      have hst : (ls.take (k + 1)).filter p = (ls.take k).filter p ++ if p (rowN ls k) = true then [rowN ls k] else [] := by
        rw [List.take_succ_eq_append_getElem hlt, List.filter_append, ← rowN_at hlt]
        simp [List.filter_cons]
      have hvl : vs.length ≤ k := by rw [hO.len]; exact Nat.le_trans (List.length_filter_le _ _) (by rw [List.length_take]; omega)
      have hk40 : k ≤ 1099511627776 := by have := H.out.2.1; omega
      have hone := old_oneCell hrv
      have HRv := Lib.hid hrv
      obtain ⟨ar, cr, rfl, -⟩ := hrv.open
      obtain ⟨av, cv, rfl⟩ := owns_shape2 hO.own
      have HO := Lib.hid (And.intro hO (And.intro hb hlt))
      clear gc g4 e1b hb hrv ce0
      by_cases hp : p (rowN ls k) = true
      · rw [hp] at hAs
        rw [if_pos hp] at hst
        have HAs := Lib.hid hAs
        have HST := Lib.hid hst
        clear hp hst hAs hO
        go_wp2_with fail
        refine HAs.out.mono ?_
        rintro e w2 ⟨rfl, hb2⟩
        have hown := owns_later HO.out.1.own hb2
        have hbB := later_trans HO.out.2.1 hb2
        have hsz := hbB.size
        have HB2 := Lib.hid hbB
        clear hb2 hbB
        go_wp2_with (at_builtin; refine wpList_append_own _ rfl (.tmp 17) (.tmp 19) 23 rfl w.heap.size 26 i0 _ 1 24 Try.underlying23 hi hz0 hz1 hz2 rfl (by decide) _ _ _ rfl (hown.alloc _) ⟨w2.heap.size, 0, none⟩ 1 1 [.slice ar (rowN ls k).length cr] rfl rfl (cells_new _ _ _) (by simp [Value.oneCell']) (by unfold maxLen; omega) (by omega) (by simp; omega) ?_; intro v6 w6 hown6 hgrow6 _; obtain ⟨g6, cap6, rfl⟩ := ownsRow_succ hown6)
        have hB6 : Below w.heap.size w w6 := (later_trans HB2.out (later_alloc w2 _)).grown hgrow6 (by simp; omega) (fun k e => owns_above hown k e)
        have hN : OldRows w w.heap.size w6 (.slice (some ⟨g6, 0, none⟩) (vs.length + 1) cap6) (vs ++ [.slice ar (rowN ls k).length cr]) ((ls.take k).filter p ++ [rowN ls k]) := by
          refine ⟨by simpa using hown6, by simp [HO.out.1.len], fun r hr => ?_⟩
          rw [rowN_snoc]
          by_cases h1 : r < ((ls.take k).filter p).length
          · rw [if_pos h1, getD_snoc _ _ _ (by rw [HO.out.1.len]; exact h1)]
            exact HO.out.1.rows r h1
          · have h2 : r = ((ls.take k).filter p).length := by simp at hr; omega
            rw [if_neg h1, if_pos h2, h2, ← HO.out.1.len, getD_last]
            exact HRv.out
        have HN := Lib.hid (And.intro hN hB6)
        clear hown hown6 hgrow6 hN hB6
        go_roundw
        case rel => first | exact ⟨k + 1, _, HO.out.2.2, by go_num, by rw [HST.out]; exact HN.out.1, HN.out.2⟩ | ((repeat apply Exists.intro); refine ⟨?_, rfl⟩; exact ⟨k + 1, _, HO.out.2.2, by go_num, by rw [HST.out]; exact HN.out.1, HN.out.2⟩)
        case measure => simp [intOf]; have := HO.out.2.2; omega
      · have hp := Bool.eq_false_iff.2 hp
        rw [hp] at hAs
        rw [hp, if_neg (by decide), List.append_nil] at hst
        have HAs := Lib.hid hAs
        have HST := Lib.hid hst
        clear hp hst hAs hO
        go_wp2_with fail
        refine HAs.out.mono ?_
        rintro e w2 ⟨rfl, hb2⟩
        have hN : OldRows w w.heap.size w2 (.slice av vs.length cv) vs ((ls.take k).filter p) := ⟨owns_later HO.out.1.own hb2, HO.out.1.len, HO.out.1.rows⟩
        have HN := Lib.hid (And.intro hN (later_trans HO.out.2.1 hb2))
        clear hb2 hN
        go_wp2_with fail
        go_roundw
        case rel => first | exact ⟨k + 1, vs, HO.out.2.2, by go_num, by rw [HST.out]; exact HN.out.1, HN.out.2⟩ | ((repeat apply Exists.intro); refine ⟨?_, rfl⟩; exact ⟨k + 1, vs, HO.out.2.2, by go_num, by rw [HST.out]; exact HN.out.1, HN.out.2⟩)
        case measure => simp [intOf]; have := HO.out.2.2; omega
    · obtain rfl : k = ls.length := by omega
      rw [List.take_length] at hO
      obtain ⟨av, cv, rfl⟩ := owns_shape2 hO.own
      have HR := Lib.hid (And.intro (hO.slR hb) hb)
      clear hO hb
      go_wp2_with fail
      go_ret
      exact ⟨_, rfl, HR.out.1, HR.out.2⟩

def AsksN (F : Nat) (caps : Array Value) (w : World) (xs : List Int) (p : Int → Bool) : Prop := ∀ x ∈ xs, ∀ W, Below w.heap.size w W → Calls Try.prog F (#[.int .i64 x] ++ caps) W fun e W' => e = .returned (.bool (p x)) ∧ Below W.heap.size W W'
set_option maxRecDepth 100000 in
set_option maxHeartbeats 2000000 in
theorem keptI_any {F : Nat} {caps : Array Value} {p : Int → Bool} {w : World} {v : Value} {xs : List Int} (hF : Enters F) (h : SlI .i64 w v xs) (hl : xs.length ≤ 1099511627776) (hA : AsksN F caps w xs p) :
    Calls Try.prog 65 #[v, .func (.func F) #[] caps] w fun e w' => ∃ v', e = .returned v' ∧ w'.ownsRow w.heap.size 3 1 v' (xs.filter p).length ((xs.filter p).map (.int .i64)) ∧ Below w.heap.size w w' := by
  obtain ⟨i0, hi, hz0, hz1, hz2⟩ := info_parts info_int
  have hE := hF
  unfold Enters at hE
  have H := Lib.hid (And.intro h (And.intro hl hA))
  obtain ⟨a, c, rfl, -⟩ := h.open
  clear h hl hA hF
  go_enter Try.func65, Try.ntmps65
  go_wp2_with fail
  go_loopw [5, 10] (fun v i wr => ∃ k : Nat, k ≤ xs.length ∧ i = .int .i64 k ∧ wr.ownsRow w.heap.size 3 1 v ((xs.take k).filter p).length (((xs.take k).filter p).map (.int .i64)) ∧ Below w.heap.size w wr) (fun _ i _ => xs.length - (intOf i).toNat)
  case atStart => exact ⟨0, Nat.zero_le _, rfl, World.ownsRow_nil _ _ _ _, Below.refl _ _⟩
  case round =>
    obtain ⟨k, hk, rfl, hO, hb⟩ := hrel
    by_cases hlt : k < xs.length
    · obtain ⟨_, _, e1, _, _, _, g4⟩ := (SlI.later H.out.1 hb).open
      obtain ⟨be, oe, e2, _, gc⟩ := g4 (by omega)
      have ce1 := gc k hlt
      injection e1 with e1a e1b e1c
      subst e1a e1c
      subst e2
      have hAs := H.out.2.2 xs[k] (List.getElem_mem hlt) wr hb
      have hst : (xs.take (k + 1)).filter p = (xs.take k).filter p ++ if p xs[k] = true then [xs[k]] else [] := by
        rw [List.take_succ_eq_append_getElem hlt, List.filter_append]
        simp [List.filter_cons]
      have hvl : ((xs.take k).filter p).length ≤ k := Nat.le_trans (List.length_filter_le _ _) (by rw [List.length_take]; omega)
      have hk40 : k ≤ 1099511627776 := by have := H.out.2.1; omega
      obtain ⟨x, hx⟩ : ∃ x, xs[k] = x := ⟨_, rfl⟩
      obtain ⟨ys, hys⟩ : ∃ ys, (xs.take k).filter p = ys := ⟨_, rfl⟩
      rw [hx] at ce1 hAs hst
      rw [hys] at hO hst hvl
      obtain ⟨av, cv, rfl⟩ := owns_shape2 hO
      have HO := Lib.hid (And.intro hO (And.intro hb hlt))
      clear gc g4 e1b hb hx hys
      by_cases hp : p x = true
      · rw [hp] at hAs
        rw [if_pos hp] at hst
        have HAs := Lib.hid hAs
        have HST := Lib.hid hst
        clear hp hst hAs hO
        go_wp2_with fail
        refine HAs.out.mono ?_
        rintro e w2 ⟨rfl, hb2⟩
        have hown := owns_later HO.out.1 hb2
        have hbB := later_trans HO.out.2.1 hb2
        have hsz := hbB.size
        have HB2 := Lib.hid hbB
        clear hb2 hbB
        go_wp2_with (at_builtin; refine wpList_append_own _ rfl (.tmp 17) (.tmp 19) 22 rfl w.heap.size 3 i0 _ 1 8 Try.underlying22 hi hz0 hz1 hz2 rfl (by decide) _ _ _ rfl (hown.alloc _) ⟨w2.heap.size, 0, none⟩ 1 1 [.int .i64 x] rfl rfl (cells_new _ _ _) (by simp [Value.oneCell']) (by unfold maxLen; omega) (by omega) (by simp; omega) ?_; intro v6 w6 hown6 hgrow6 _; obtain ⟨g6, cap6, rfl⟩ := ownsRow_succ hown6)
        have hB6 : Below w.heap.size w w6 := (later_trans HB2.out (later_alloc w2 _)).grown hgrow6 (by simp; omega) (fun k e => owns_above hown k e)
        have HN := Lib.hid (And.intro (show w6.ownsRow w.heap.size 3 1 (.slice (some ⟨g6, 0, none⟩) (ys.length + 1) cap6) (ys ++ [x]).length ((ys ++ [x]).map (.int .i64)) by simpa using hown6) hB6)
        clear hown hown6 hgrow6 hB6
        go_roundw
        case rel => first | exact ⟨k + 1, HO.out.2.2, by go_num, by rw [HST.out]; exact HN.out.1, HN.out.2⟩ | ((repeat apply Exists.intro); refine ⟨?_, rfl⟩; exact ⟨k + 1, HO.out.2.2, by go_num, by rw [HST.out]; exact HN.out.1, HN.out.2⟩)
        case measure => simp [intOf]; have := HO.out.2.2; omega
      · have hp := Bool.eq_false_iff.2 hp
        rw [hp] at hAs
        rw [hp, if_neg (by decide), List.append_nil] at hst
        have HAs := Lib.hid hAs
        have HST := Lib.hid hst
        clear hp hst hAs hO
        go_wp2_with fail
        refine HAs.out.mono ?_
        rintro e w2 ⟨rfl, hb2⟩
        have HN := Lib.hid (And.intro (owns_later HO.out.1 hb2) (later_trans HO.out.2.1 hb2))
        clear hb2
        go_wp2_with fail
        go_roundw
        case rel => first | exact ⟨k + 1, HO.out.2.2, by go_num, by rw [HST.out]; exact HN.out.1, HN.out.2⟩ | ((repeat apply Exists.intro); refine ⟨?_, rfl⟩; exact ⟨k + 1, HO.out.2.2, by go_num, by rw [HST.out]; exact HN.out.1, HN.out.2⟩)
        case measure => simp [intOf]; have := HO.out.2.2; omega
    · obtain rfl : k = xs.length := by omega
      rw [List.take_length] at hO
      obtain ⟨av, cv, rfl⟩ := owns_shape2 hO
      have HR := Lib.hid (And.intro hO hb)
      clear hO hb
      go_wp2_with fail
      go_ret
      exact ⟨_, rfl, HR.out.1, HR.out.2⟩

/-- Where variables stand. -/
def placesL (vs o : List Int) : List Int := o.map (idxI vs)
set_option maxRecDepth 100000 in
set_option maxHeartbeats 2000000 in
theorem places_any (vv rv v : Value) (vs o : List Int) (w : World) (h : SlI .i64 w vv vs) (hr : ∃ a n c, rv = .slice a n c) (ho : SlI .i64 w v o) (hl : o.length ≤ 1099511627776) :
    Calls Try.prog 38 #[relV vv rv, v] w fun e w' => ∃ v', e = .returned (.tuple #[v', .bool (o.all fun x => decide (x ∈ vs))]) ∧ ((o.all fun x => decide (x ∈ vs)) = true → w'.ownsRow w.heap.size 3 1 v' o.length ((placesL vs o).map (.int .i64))) ∧ ((o.all fun x => decide (x ∈ vs)) = false → v' = .slice none 0 0) ∧ Below w.heap.size w w' := by
  obtain ⟨i0, hi, hz0, hz1, hz2⟩ := info_parts info_int
  obtain ⟨ar, nr, cr, rfl⟩ := hr
  have hb0 := later_alloc w (.cells #[vv, .slice ar nr cr] 25)
  have H := Lib.hid (And.intro (SlI.later h hb0) (And.intro (SlI.later ho hb0) (And.intro hl (box_new w #[vv, .slice ar nr cr] 25))))
  have HB := Lib.hid hb0
  obtain ⟨av, cv, rfl, -⟩ := h.open
  obtain ⟨ao, co, rfl, -⟩ := ho.open
  clear h ho hl hb0
  obtain ⟨ok, hok⟩ : ∃ ok, (o.all fun x => decide (x ∈ vs)) = ok := ⟨_, rfl⟩
  rw [hok]
  have HOk := Lib.hid hok
  clear hok
  go_enter Try.func38, Try.ntmps38
  go_wp2_with fail
  go_loopw [6, 12] (fun v i wr => ∃ k : Nat, k ≤ o.length ∧ i = .int .i64 k ∧ (∀ j, j < k → o.getD j 0 ∈ vs) ∧ wr.ownsRow (w.heap.size + 1) 3 1 v k ((placesL vs (o.take k)).map (.int .i64)) ∧ Below (w.alloc (.cells #[.slice av vs.length cv, .slice ar nr cr] 25)).heap.size (w.alloc (.cells #[.slice av vs.length cv, .slice ar nr cr] 25)) wr) (fun _ i _ => o.length - (intOf i).toNat)
  case atStart => exact ⟨0, Nat.zero_le _, rfl, fun j hj => by omega, World.ownsRow_nil _ _ _ _, Below.refl _ _⟩
  case round =>
    obtain ⟨k, hk, rfl, hs, hO, hb⟩ := hrel
    obtain ⟨c0, c1, lX⟩ := two_of2 (kept hb H.out.2.2.2)
    by_cases hlt : k < o.length
    · obtain ⟨_, _, e1, _, _, _, g4⟩ := (SlI.later H.out.2.1 hb).open
      obtain ⟨be, oe, e2, _, gc⟩ := g4 (by omega)
      have ce1 := gc k hlt
      injection e1 with e1a e1b e1c
      subst e1a e1c
      subst e2
      rw [← getD_at hlt] at ce1
      have hIx := Index_any (.slice av vs.length cv) vs (o.getD k 0) wr (SlI.later H.out.1 hb)
      have hnn := idxI_nonneg vs (o.getD k 0)
      have hst : placesL vs (o.take (k + 1)) = placesL vs (o.take k) ++ [idxI vs (o.getD k 0)] := by
        unfold placesL
        rw [List.take_succ_eq_append_getElem hlt, List.map_append, getD_at hlt]
        rfl
      have hgood : o.getD k 0 ∈ vs → Hid (∀ j, j < k + 1 → o.getD j 0 ∈ vs) := fun h => Lib.hid (fun j hj => by
        by_cases e : j = k
        · subst e; exact h
        · exact hs j (by omega))
      have hbad : o.getD k 0 ∉ vs → Hid (¬ o.all (fun x => decide (x ∈ vs)) = true) := fun h => Lib.hid (fun hall => by
        have := List.all_eq_true.1 hall (o.getD k 0) (by rw [getD_at hlt]; exact List.getElem_mem hlt)
        exact h (of_decide_eq_true this))
      obtain ⟨x, hx⟩ : ∃ x, o.getD k 0 = x := ⟨_, rfl⟩
      rw [hx] at ce1 hIx hnn hst hgood hbad
      obtain ⟨ix, hix⟩ : ∃ ix, idxI vs x = ix := ⟨_, rfl⟩
      rw [hix] at hIx hnn hst
      have hk40 : k ≤ 1099511627776 := by have := H.out.2.2.1; omega
      have hsz := hb.size
      rw [World.size_alloc] at hsz
      obtain ⟨av2, cv2, rfl⟩ := owns_shape2 hO
      have HIx := Lib.hid hIx
      have HO := Lib.hid (And.intro hO (And.intro hb (And.intro hlt hst)))
      clear gc g4 e1b hb hx hix hst hs hIx
      by_cases hin : x ∈ vs
      · have hix0 : ¬ ix < 0 := by rw [decide_eq_true hin] at hnn; have := of_decide_eq_true hnn; omega
        have HG := hgood hin
        clear hgood hbad hnn hin
        go_wp2_with fail
        refine HIx.out.mono ?_
        rintro e w2 ⟨rfl, rfl⟩
        have hown := HO.out.1
        go_wp2_with (at_builtin; refine wpList_append_own _ rfl (.tmp 22) (.tmp 24) 22 rfl (w.heap.size + 1) 3 i0 _ 1 8 Try.underlying22 hi hz0 hz1 hz2 rfl (by decide) _ _ _ rfl (hown.alloc _) ⟨w2.heap.size, 0, none⟩ 1 1 [.int .i64 ix] rfl rfl (cells_new _ _ _) (by simp [Value.oneCell']) (by unfold maxLen; omega) (by omega) (by simp; omega) ?_; intro v6 w6 hown6 hgrow6 _; obtain ⟨g6, cap6, rfl⟩ := ownsRow_succ hown6)
        have hB6 : Below (w.alloc (.cells #[.slice av vs.length cv, .slice ar nr cr] 25)).heap.size (w.alloc (.cells #[.slice av vs.length cv, .slice ar nr cr] 25)) w6 := (later_trans HO.out.2.1 (later_alloc w2 _)).grown hgrow6 (by simp; omega) (fun k e => by rw [World.size_alloc]; exact owns_above hown k e)
        have HN := Lib.hid (And.intro (show w6.ownsRow (w.heap.size + 1) 3 1 (.slice (some ⟨g6, 0, none⟩) (k + 1) cap6) (k + 1) ((placesL vs (o.take k) ++ [ix]).map (.int .i64)) by simpa using hown6) hB6)
        clear hown hown6 hgrow6 hB6
        go_roundw
        case rel => first | exact ⟨k + 1, HO.out.2.2.1, by go_num, HG.out, by rw [HO.out.2.2.2]; exact HN.out.1, HN.out.2⟩ | ((repeat apply Exists.intro); refine ⟨?_, rfl⟩; exact ⟨k + 1, HO.out.2.2.1, by go_num, HG.out, by rw [HO.out.2.2.2]; exact HN.out.1, HN.out.2⟩)
        case measure => simp [intOf]; have := HO.out.2.2.1; omega
      · have hix0 : ix < 0 := by rw [decide_eq_false hin] at hnn; have := of_decide_eq_false hnn; omega
        have HG := hbad hin
        clear hgood hbad hnn hin
        obtain rfl : ok = false := by rw [← HOk.out]; exact Bool.eq_false_iff.2 HG.out
        go_wp2_with fail
        refine HIx.out.mono ?_
        rintro e w2 ⟨rfl, rfl⟩
        have HR := Lib.hid (later_trans HB.out HO.out.2.1)
        go_wp2_with fail
        go_ret2
        exact ⟨_, rfl, rfl, HR.out⟩
    · obtain rfl : k = o.length := by omega
      rw [List.take_length] at hO
      obtain ⟨av2, cv2, rfl⟩ := owns_shape2 hO
      have hall : o.all (fun x => decide (x ∈ vs)) = true := List.all_eq_true.2 fun x hx => by
        obtain ⟨j, hj, rfl⟩ := List.getElem_of_mem hx
        have := hs j hj
        rw [getD_at hj] at this
        exact decide_eq_true this
      obtain rfl : ok = true := by rw [← HOk.out]; exact hall
      have HR := Lib.hid (And.intro (owns_down hO (Nat.le_succ w.heap.size)) (later_trans HB.out hb))
      clear hO hb hs
      go_wp2_with fail
      go_ret2
      exact ⟨_, rfl, HR.out.1, HR.out.2⟩
end Go.Proofs.Ytdeiinfljfgmeaa
