/-
  slices.Values, Collect, SortedStableFunc at rows: another row of the same rows, in some order.
-/
import Derived.Test.YtenhpfhadbafbaaLeSort
import Derived.Test.YtenhpfhadbafbaaLeRange
import Derived.Test.YtenhpfhadbafbaaLib
import Derived.Deep.QuietTactic
import Derived.Laws.EntriesVeiled
namespace Go.Proofs.Ytenhpfhadbafbaa
open Go.RowKit Go.Shelf
set_option linter.unusedVariables false
attribute [local go_sem] Oper.semAt_some

/-- A slice, by its parts. -/
abbrev Sl := Option Addr × Nat × Nat
def sl (x : Sl) : Value := .slice x.1 x.2.1 x.2.2
def encV (x : Sl) : Array Value := #[.slice x.1 x.2.1 x.2.2]
/-- What the body keeps of the iterator's box. -/
def KV (n0 K : Nat) (A C : World) : Prop := Below n0 A C ∧ ∀ o, A.heap[K]? = some o → C.heap[K]? = some o
theorem KV.trans {n0 K : Nat} {A B C : World} (h : KV n0 K A B) (k : KV n0 K B C) : KV n0 K A C := ⟨h.1.trans k.1, fun o e => k.2 o (h.2 o e)⟩
theorem KV.later {n0 K : Nat} {A C : World} (h : Below A.heap.size A C) (hn : n0 ≤ A.heap.size) : KV n0 K A C := ⟨h.mono hn, fun o e => (h.block _ (lt_of_block e)).trans e⟩

set_option maxRecDepth 100000 in
set_option maxHeartbeats 4000000 in
theorem values_stops (n : Nat) (hn : 1 ≤ n) {w0 w : World} {K : Nat} {v : Value} {xs : List Sl} (hw : Below w0.heap.size w0 w) (h : SlC w0 v (xs.map sl))
    (hK : w.heap[K]? = some (.cells #[v] 22 (0, 0))) :
    SeqX n Try.prog 47 #[.pointer (some ⟨K, 0, none⟩)] encV (KV w0.heap.size K) (fun _ => False) (fun ys => ys = xs) (fun _ => True) (xs.length + 1) (fun _ => True) w := fun l J XX W hW hJa hXa hY h0 => by
  obtain ⟨a, c, rfl, h1, h2, h3, h4⟩ := h
  simp only [List.length_map] at h1 hK
  have HX := Lib.hid h4
  have HJA := Lib.hid hJa
  have HXA := Lib.hid hXa
  have HY := Lib.hid hY
  have hKW := (hW.block _ (lt_of_block hK)).trans hK
  have hW0 := later_trans hw hW
  have hm : xs.length ≤ 9223372036854775807 := by have : c ≤ 9223372036854775807 := h2; omega
  have k0 := box_cell (i := 0) hKW
  simp at k0
  have HB := Lib.hid (And.intro hW0 hKW)
  clear h1 h2 h3 h4 hJa hXa hY hW hw hK
  refine callsIn_of_wp Try.func47 rfl trivial ?_ rfl
  simp only [Try.ntmps47, List.size_toArray, List.length_cons, List.length_nil, Nat.reduceAdd, Nat.reduceSub, Array.replicate_succ, Array.replicate_zero, List.push_toArray, List.append_toArray, List.nil_append, List.cons_append]
  gi_wp2
  gi_loopw [7] (fun k wr => ∃ i : Nat, i ≤ xs.length ∧ k = .int .i64 i ∧ J (xs.take i) wr ∧ KV w0.heap.size K W wr) (fun k _ => xs.length - (intOf k).toNat)
  case atStart => exact ⟨0, Nat.zero_le _, rfl, by simpa using h0, KV.later (later_refl W) HB.out.1.size⟩
  case round =>
    obtain ⟨i, hi, rfl, hJ, hk⟩ := hrel
    by_cases hlt : i < xs.length
    · obtain ⟨b, o, rfl, hb, hc⟩ := HX.out (by intro e; rw [List.map_eq_nil_iff] at e; rw [e] at hlt; simp at hlt)
      have c1 := hc i (sl xs[i]) (by simp [List.getElem?_eq_getElem hlt])
      have c1 := cell_next (HB.out.1.trans hk.1) c1
      unfold sl at c1
      obtain ⟨x, hx⟩ : ∃ x, xs[i] = x := ⟨_, rfl⟩
      have hst : xs.take (i + 1) = xs.take i ++ [xs[i]] := List.take_succ_eq_append_getElem hlt
      rw [hx] at c1 hst
      obtain ⟨fn, tmps, assign, body, hy, hRd⟩ := HY.out (xs.take i) x wr hJ (by rw [List.length_take]; omega)
      dsimp only [encV] at hy
      have HS := Lib.hid (And.intro hst hk)
      clear hc hst hk hx
      gi_wp2
      refine hRd.mono ?_
      rintro en W3 (⟨rfl, hJ3, hk3⟩ | ⟨rfl, hX3⟩)
      · gi_wp2
        exact ⟨⟨i + 1, by omega, by go_num, by rw [HS.out.1]; exact hJ3, HS.out.2.trans hk3⟩, by simp [intOf]; omega⟩
      · gi_wp2
        refine bodyPost_ret (results_none rfl _ _ _) rfl ?_
        exact ⟨⟨_, rfl⟩, .inr ⟨_, trivial, hX3⟩⟩
    · obtain rfl : i = xs.length := by omega
      gi_wp2
      go_end0
      exact ⟨⟨_, rfl⟩, .inl ⟨xs, rfl, by rw [List.take_of_length_le (Nat.le_refl _)] at hJ; exact hJ, trivial⟩⟩

theorem box_kept {W W' : World} {row : Option Nat} {B b : Nat} {cs : Array Value} {e : TypeId} {fr : Nat × Nat} (h : W.heap[b]? = some (.cells cs e fr)) (hg : W.grownBy W' row) (hr : ∀ r, row = some r → B ≤ r ∧ ∃ o : Obj, W.heap[r]? = some o ∧ o.isCells = false) : W'.heap[b]? = some (.cells cs e fr) := by
  refine (hg.block b (lt_of_block h) ?_).trans h
  intro e1
  obtain ⟨_, o, h1, h2⟩ := hr b e1.symm
  rw [h] at h1
  cases h1
  simp [Obj.isCells] at h2
theorem ownsRow_kept {W W' : World} {row : Option Nat} {B base : Nat} {e : TypeId} {size : Nat} {v : Value} {n : Nat} {xs : List Value} (h : W.ownsRow base e size v n xs) (hg : W.grownBy W' row) (hr : ∀ r, row = some r → B ≤ r ∧ ∃ o : Obj, W.heap[r]? = some o ∧ o.isCells = false) : W'.ownsRow base e size v n xs := by
  obtain ⟨h1, h2⟩ := h
  refine ⟨h1, ?_⟩
  rcases h2 with h2 | ⟨g, cap, cur, hv, hg', hh, r⟩
  · exact .inl h2
  · exact .inr ⟨g, cap, cur, hv, hg', box_kept hh hg hr, r⟩

theorem own_isCells {w : World} {base : Nat} {e : TypeId} {size : Nat} {v : Value} {n : Nat} {xs : List Value} (h : w.ownsRow base e size v n xs) : ∀ (j : Nat) (o : Obj), v.ownBlock = some j → w.heap[j]? = some o → o.isCells = true := by
  intro j o h1 h2
  rcases h.2 with ⟨rfl, rfl⟩ | ⟨g, cap, cur, rfl, hg, hh, r⟩
  · simp [Value.ownBlock] at h1
  · simp [Value.ownBlock] at h1
    subst h1
    rw [hh] at h2
    cases h2
    rfl
theorem info_row : (Try.prog.info? 32).map (fun i => (i.zero, i.size, i.bytes)) = some (some (.slice none 0 0), 1, 24) := by kernel_rfl
theorem keeps_later {A C : World} (h : Below A.heap.size A C) (B : Nat) : KeepsFrom B A C := ⟨h.size, fun k o _ hk _ => (h.block k (Array.getElem?_eq_some_iff.1 hk).1).trans hk⟩
/-- What the range of AppendSeq keeps. -/
def ApI (w : World) (T base : Nat) (pre : List Sl) (V : World) : Prop :=
  ∃ v, V.heap[T]? = some (.cells #[v] 22 (0, 0)) ∧ V.ownsRow base 32 1 v pre.length (pre.map sl) ∧ base ≤ V.heap.size ∧ Below w.heap.size w V
theorem apI_kept {w : World} {T base D : Nat} (hD : w.heap.size ≤ D) : OwnFrom D (ApI w T base) := by
  rintro pre A B' row ⟨v, h1, h2, h3, h4⟩ hg hr
  exact ⟨v, box_kept h1 hg hr, ownsRow_kept h2 hg hr, Nat.le_trans h3 hg.size, ownFrom_below (Nat.le_refl _) hD () A B' row h4 hg hr⟩
theorem slOne (x : Sl) : ∀ v ∈ [Value.slice x.1 x.2.1 x.2.2], v.oneCell' = true := by simp [Value.oneCell']

set_option maxRecDepth 100000 in
set_option maxHeartbeats 4000000 in
theorem appendSeq_any {w0 w : World} {K : Nat} {v : Value} {xs : List Sl} (hw : Below w0.heap.size w0 w) (h : SlC w0 v (xs.map sl)) (hK : w.heap[K]? = some (.cells #[v] 22 (0, 0))) (hl : xs.length ≤ 1000) :
    Calls Try.prog 53 #[.slice none 0 0, .func (.func 47) #[] #[.pointer (some ⟨K, 0, none⟩)]] w fun e w' =>
      ∃ v', e = .returned v' ∧ w'.ownsRow w.heap.size 32 1 v' xs.length (xs.map sl) ∧ Below w.heap.size w w' := by
  obtain ⟨i0, hi, hz0, hz1, hz2⟩ := info_parts info_row
  refine (callsIn_wide (n := 6)).1 ?_
  refine callsIn_of_wp_marks Try.func53 rfl trivial ?_ rfl
  simp only [Try.ntmps53, List.size_toArray, List.length_cons, List.length_nil, Nat.reduceAdd, Nat.reduceSub, Array.replicate_succ, Array.replicate_zero, List.push_toArray, List.append_toArray, List.nil_append, List.cons_append]
  gi_wp2
  obtain ⟨T, hTe⟩ : ∃ T, w.heap.size = T := ⟨_, rfl⟩
  obtain ⟨Wr, hWr⟩ : ∃ Wr, w.alloc (.cells #[.slice none 0 0] 22) = Wr := ⟨_, rfl⟩
  have hbWr : Below w.heap.size w Wr := by rw [← hWr]; exact later_alloc w _
  have hsz : Wr.heap.size = T + 1 := by rw [← hWr, ← hTe]; simp
  have hTr : Wr.heap[T]? = some (.cells #[.slice none 0 0] 22 (0, 0)) := by rw [← hWr, ← hTe]; exact box_new w _ _
  have hKr := (hbWr.block K (lt_of_block hK)).trans hK
  have hKT : K < T := by rw [← hTe]; exact lt_of_block hK
  rw [hWr, hTe]
  have hws := hw.size
  clear hWr
  refine wpIn_range_stops (by omega) (gf := 47) (lb := #[.pointer (some ⟨K, 0, none⟩)]) rfl (enters_of Try.func47 (by kernel_rfl) rfl)
    (values_stops 5 (by omega) (later_trans hw hbWr) h hKr) (fun r h => h.elim) (fun h k => KV.trans h k)
    (fun V l o o' hl ho hc hw' => ⟨belowK_b (w := w0) (Nat.le_refl _) V l o o' (by omega) ho hc hw', fun o2 h2 => by rw [World.putObj_heap_other (by omega)]; exact h2⟩)
    (Below.refl _ _) (fun _ => rfl) (ApI w T Wr.heap.size) (fun _ _ _ => False) (apI_kept (by omega)) (fun c => fun _ _ _ _ h => h.elim) (fun _ _ _ _ _ _ _ => trivial)
    (fun s A B hI hg => by
      obtain ⟨v, g1, g2, g3, g4⟩ := hI
      have hb : Below A.heap.size A B := hg.below (fun b hb => hb.elim) (Nat.le_refl _)
      exact ⟨v, (hb.block _ (lt_of_block g1)).trans g1, owns_later g2 hb, Nat.le_trans g3 hb.size, later_trans g4 hb⟩)
    ⟨_, hTr, World.ownsRow_nil _ _ _ _, Nat.le_refl _, hbWr⟩
    (fun x a' V => a' = { tmps := #[.slice none 0 0, .func (.func 47) #[] #[.pointer (some ⟨K, 0, none⟩)], .pointer (some ⟨T, 0, none⟩), undef, .slice none 0 0, .slice x.1 x.2.1 x.2.2, .func (.func 47) #[] #[.pointer (some ⟨K, 0, none⟩)], .slice x.1 x.2.1 x.2.2, undef, undef, undef, undef, undef], defers := [] })
    (fun x a' => fun _ A B' row h hg hr => h) ?assign ?body ?done (fun D c pre V hD hS hx hd => hx.elim)
  case assign =>
    intro l pre x V KQ hI hK
    simp only [encV]
    gi_wp2
    obtain ⟨v', g1, g2, g3, g4⟩ := hI
    exact hK _ _ (keeps_later (later_refl V) _) (KV.later (later_refl V) (by omega)) ⟨v', g1, g2, g3, g4⟩ rfl
  case body =>
    rintro l pre x a' V hl ⟨v, h1, h2, h3, h4⟩ rfl hpl
    obtain ⟨av, cv, rfl⟩ := owns_shape2 h2
    have t0 := box_cell (i := 0) h1
    have f0 := box_frozen (i := 0) h1
    simp at t0
    have hTV := lt_of_block h1
    gi_wp2_with (first
        | (gi_at_builtin; refine wpListIn_append_own _ rfl (.tmp 8) (.tmp 10) 22 rfl Wr.heap.size 32 i0 _ 1 24 Try.underlying22 hi hz0 hz1 hz2 rfl (by decide) _ _ _ rfl (h2.alloc _) ⟨V.heap.size, 0, none⟩ 1 1 [.slice x.1 x.2.1 x.2.2] rfl rfl (cells_new _ _ _) (slOne x) (by unfold maxLen; omega) (by omega) (by simp; omega) ?_; intro v6 w6 hown6 hgrow6 _; obtain ⟨g6, cap6, rfl⟩ := ownsRow_succ hown6; have hT6 := box_grown (h2.alloc _) hgrow6 (box_alloc h1 _) (by decide); have t6 := box_cell (i := 0) hT6; have f6 := box_frozen (i := 0) hT6; simp at t6))
    have hk := later_alloc V (.cells #[.slice x.1 x.2.1 x.2.2] 32)
    have otherB : ∀ (b' : Nat) (o : Obj), b' < Wr.heap.size → b' ≠ T → V.heap[b']? = some o → (w6.setCell ⟨T, 0, none⟩ (.slice (some ⟨g6, 0, none⟩) (pre.length + 1) cap6)).heap[b']? = some o := by
      intro b' o e1 e2 hb'
      refine (heap_setCell_other _ ⟨T, 0, none⟩ b' _ e2).trans ?_
      refine (hgrow6.block b' (by simp; omega) ?_).trans ((hk.block b' (by omega)).trans hb')
      intro e
      have := owns_above (h2.alloc (.cells #[.slice x.1 x.2.1 x.2.2] 32)) b' e.symm
      omega
    refine ⟨?_, ⟨?_, fun o e => otherB _ o (by omega) (by omega) e⟩, ⟨_, box_set hT6 _, ?_, ?_, ?_⟩⟩
    · have k1 : KeepsOthers V _ := ((KeepsOthers.alloc V _).trans (KeepsOthers.of_grownBy hgrow6 (own_isCells (h2.alloc _)))).trans (KeepsOthers.setCell _ ⟨T, 0, none⟩ (.slice (some ⟨g6, 0, none⟩) (pre.length + 1) cap6))
      exact k1.from _
    · exact ((hk.mono (by omega)).grown hgrow6 (by simp; omega) (fun k e => Nat.le_trans (by omega) (owns_above h2 k e))).setCell (show w0.heap.size ≤ T by omega) _
    · have h9 := own_set (i := 0) hown6 hT6 (by decide) (.slice (some ⟨g6, 0, none⟩) (pre.length + 1) cap6)
      simpa [sl] using h9
    · exact Nat.le_trans h3 (Nat.le_trans hk.size (Nat.le_trans hgrow6.size (by simp)))
    · exact ((later_trans h4 hk).grown hgrow6 (by simp; omega) (fun k e => Nat.le_trans (by omega) (owns_above h2 k e))).setCell (show w.heap.size ≤ T by omega) _
  case done =>
    rintro D ys V hD rfl hI - hdef
    have hI2 := hI
    obtain ⟨v', h1, h2, h3, h4⟩ := hI
    obtain ⟨av, cv, rfl⟩ := owns_shape2 h2
    have t0 := box_cell (i := 0) h1
    simp at t0
    gi_wp2
    have hI3 := fun o' => OwnFrom.putObj (apI_kept (w := w) (T := T) (base := Wr.heap.size) (by omega)) o' hI2 hD hdef rfl
    refine ⟨by simp, .inl ⟨_, _, rfl, run_takeDeferred hdef, ?_⟩⟩
    refine ⟨_, results_tmp rfl _ _ _, _, rfl, ?_⟩
    obtain ⟨_, _, _, _, g4⟩ := hI3 (Obj.deferred none)
    exact ⟨owns_down (ownsRow_kept (B := Wr.heap.size) h2 (grownBy_putObj' V D _) (fun r e => by cases e; exact ⟨hD, _, hdef, rfl⟩)) (by omega), g4⟩

theorem valuesF_any (a : Option Addr) (n c : Nat) (w : World) :
    Calls Try.prog 34 #[.slice a n c] w fun en w' => en = .returned (.func (.func 47) #[] #[.pointer (some ⟨w.heap.size, 0, none⟩)]) ∧ w' = w.alloc (.cells #[.slice a n c] 22) := by
  go_enter Try.func34, Try.ntmps34
  go_wp2
  go_ret
  exact ⟨rfl, rfl⟩
theorem collect_any {w0 w : World} {K : Nat} {v : Value} {xs : List Sl} (hw : Below w0.heap.size w0 w) (h : SlC w0 v (xs.map sl)) (hK : w.heap[K]? = some (.cells #[v] 22 (0, 0))) (hl : xs.length ≤ 1000) :
    Calls Try.prog 45 #[.func (.func 47) #[] #[.pointer (some ⟨K, 0, none⟩)]] w fun e w' =>
      ∃ v', e = .returned v' ∧ w'.ownsRow w.heap.size 32 1 v' xs.length (xs.map sl) ∧ Below w.heap.size w w' := by
  have H := Lib.hid (appendSeq_any hw h hK hl)
  clear hw h hK
  go_enter Try.func45, Try.ntmps45
  go_wp2_with first
    | (go_at_call 53; refine H.out.mono ?_; rintro e w1 ⟨v', rfl, h1, h2⟩)
    | fail
  go_ret
  exact ⟨_, rfl, h1, h2⟩

def toSl : Value → Sl
  | .slice a n c => (a, n, c)
  | _ => (none, 0, 0)
theorem rows_list (ls : List (List Int)) : (List.range ls.length).map (rowN ls) = ls := by
  refine List.ext_getElem (by simp) fun i h1 h2 => ?_
  simp [rowN, List.getD, List.getElem?_eq_getElem h2]
theorem slR_parts {w : World} {v : Value} {ls : List (List Int)} (h : SlR w v ls) : ∃ (xs : List Sl) (ps : List (Value × List Int)), xs.length = ls.length ∧ SlC w v (xs.map sl) ∧ ps.map Prod.fst = xs.map sl ∧ ps.map Prod.snd = ls ∧ ∀ p ∈ ps, SlI .u64 w p.1 p.2 := by
  obtain ⟨rv, h1, h2⟩ := h
  have hs : ∀ r, r < ls.length → sl (toSl (rv r)) = rv r := fun r hr => by
    obtain ⟨a, c, e, _⟩ := (h2 r hr).open
    rw [e]
    rfl
  have e1 : ((List.range ls.length).map (fun r => toSl (rv r))).map sl = (List.range ls.length).map rv := by
    rw [List.map_map]
    exact List.map_congr_left fun r hr => hs r (List.mem_range.1 hr)
  refine ⟨(List.range ls.length).map (fun r => toSl (rv r)), (List.range ls.length).map (fun r => (rv r, rowN ls r)), by simp, by rw [e1]; exact h1, by rw [e1, List.map_map]; rfl, by rw [List.map_map]; exact rows_list ls, fun p hp => ?_⟩
  obtain ⟨r, hr, rfl⟩ := List.mem_map.1 hp
  exact h2 r (List.mem_range.1 hr)
theorem RowsAt.slR {w0 W : World} {g cap : Nat} {ps : List (Value × List Int)} (h : RowsAt w0 W g cap ps) : SlR W (.slice (some ⟨g, 0, none⟩) ps.length cap) (ps.map Prod.snd) := by
  refine ⟨fun r => (ps.getD r (.slice none 0 0, [])).1, ?_, fun r hr => ?_⟩
  · have e : (List.range (ps.map Prod.snd).length).map (fun r => (ps.getD r (.slice none 0 0, [])).1) = ps.map Prod.fst := by
      refine List.ext_getElem (by simp) fun i h1 h2 => ?_
      simp at h2
      simp [List.getD, List.getElem?_eq_getElem h2]
    rw [e]
    exact SlC.of_owns h.own
  · have hr' : r < ps.length := by simpa using hr
    have := h.vals ps[r] (List.getElem_mem hr')
    have e1 : (ps.getD r (.slice none 0 0, [])).1 = ps[r].1 := by simp [List.getD, List.getElem?_eq_getElem hr']
    have e2 : rowN (ps.map Prod.snd) r = ps[r].2 := by simp [rowN, List.getD, List.getElem?_eq_getElem hr']
    show SlI .u64 W (ps.getD r (.slice none 0 0, [])).1 _
    rw [e1, e2]
    exact this.later h.bel

set_option maxRecDepth 100000 in
set_option maxHeartbeats 2000000 in
theorem sorted_any {w w1 : World} {K : Nat} {v : Value} {ls : List (List Int)} (h : SlR w v ls) (hw : Below w.heap.size w w1) (hK : w1.heap[K]? = some (.cells #[v] 22 (0, 0))) (h0 : 0 < ls.length) (hl : ls.length ≤ 19) :
    Calls Try.prog 33 #[.func (.func 47) #[] #[.pointer (some ⟨K, 0, none⟩)], .func (.func 35) #[] #[]] w1 fun e w' =>
      ∃ g cap ls', e = .returned (.slice (some ⟨g, 0, none⟩) ls.length cap) ∧ SlR w' (.slice (some ⟨g, 0, none⟩) ls.length cap) ls' ∧ ls'.Perm ls ∧ Below w.heap.size w w' := by
  obtain ⟨xs, ps, hx, hc, hf, hs, hv⟩ := slR_parts h
  have hpl : ps.length = ls.length := by have := congrArg List.length hs; simpa using this
  have HC := Lib.hid (collect_any hw hc hK (by omega))
  have HP := Lib.hid (And.intro hw (And.intro hf (And.intro hs hv)))
  clear h hw hK hc hf hs hv
  go_enter Try.func33, Try.ntmps33
  go_wp2_with first
    | (go_at_call 45; refine HC.out.mono ?_; rintro e w2 ⟨v', rfl, h1, h2⟩
       obtain ⟨k, hk⟩ : ∃ k, xs.length = k + 1 := ⟨xs.length - 1, by omega⟩
       rw [hk] at h1
       obtain ⟨g, cap, rfl⟩ := ownsRow_succ h1
       have hRA : RowsAt w w2 g cap ps := ⟨by rw [HP.out.2.1, show ps.length = k + 1 from by omega]; exact owns_down h1 HP.out.1.size, HP.out.2.2.2, later_trans HP.out.1 h2⟩
       have HRA := sortStable_any hRA (by omega)
       rw [hpl] at HRA
       replace HRA := Lib.hid HRA
       rw [show k + 1 = ls.length from by omega]
       clear h1 h2 hRA)
    | (go_at_call 46; refine HRA.out.mono ?_; rintro e w3 ⟨rfl, qs, hq, hR⟩)
    | fail
  go_ret
  have hql := hq.length_eq
  have hR2 := hR.slR
  rw [hql, hpl] at hR2
  refine ⟨g, cap, qs.map Prod.snd, rfl, hR2, ?_, hR.bel⟩
  rw [← HP.out.2.2.1]
  exact hq.map _
end Go.Proofs.Ytenhpfhadbafbaa
