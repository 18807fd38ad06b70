/-
  Rows said by their values; append of a row, nil or not, onto a row of the call's own.
-/
import Derived.Deep.AppendLies
import Derived.Deep.RegionLaw
import Derived.Test.YtplidcbfbonjlaaDoorHzRc
import Derived.Test.YtplidcbfbonjlaaDoorHzSpl
namespace Go.Proofs.YtplidcbfbonjlaaDoor
open Go.RowKit
set_option linter.unusedVariables false
set_option linter.unusedSimpArgs false

theorem run_append_sl {P : Program} (w : World) (t ty e : TypeId) (i : TypeInfo) (z : Value) (bytes base : Nat) (ht : P.underlying t = some (.slice e)) (hi : P.info? e = some i) (hz : i.zero = some z)
    (hsize : i.size = 1) (hby : i.bytes = bytes) (hzs : z.cells.size = 1) (v : Value) (n : Nat) (xs : List Value) (hown : w.ownsRow base e 1 v n xs) (x : Value) (news : List Value) (hx : SlC w x news) (h1 : ∀ u ∈ news, u.oneCell' = true)
    (h63 : n + news.length ≤ maxLen) (hbytes : (n + news.length) * bytes ≤ 140737488355328) (hbase : base ≤ w.heap.size) :
    ∃ a c w', (Builtin.append_ #[t, t] ty #[v, x]).run P w = .ok (.slice a (n + news.length) c) w' ∧ w'.ownsRow base e 1 (.slice a (n + news.length) c) (n + news.length) (xs ++ news) ∧ w.grownBy w' v.ownBlock := by
  obtain ⟨ad, c, rfl, k1, k2, k3, k4⟩ := id hx
  cases ad with
  | none =>
    have hn : news = [] := by
      by_cases q : news = []
      · exact q
      · obtain ⟨b, o, e, -⟩ := k4 q
        cases e
    subst hn
    obtain rfl : c = 0 := k3 rfl
    obtain ⟨a, c, rfl⟩ := owns_shape2 hown
    exact ⟨a, c, w, run_append_owned_none w base t ty e i 1 ht hi _ n xs hown, by simpa using hown, World.grownBy.refl _ _⟩
  | some ad =>
    obtain ⟨v', w', hr, h2, h3, -, -⟩ := run_append_own_at (P := P) w base t ty e i z 1 bytes ht hi hz hsize hby hzs (by decide) v n xs hown ad news.length c news (by simp) hx.cells h1 h63 hbytes hbase
    obtain ⟨a, c', rfl⟩ := owns_shape2 h2
    exact ⟨a, c', w', hr, h2, h3⟩
theorem step_append_sl {P : Program} {ops : Array Oper} {o : Oper} {a : Act} {K : Act → World → Prop} {Q : Exit → Act → World → Prop} {E : Prop} {w : World} (hgd : o.guard = none) (s x : Operand) (t : TypeId)
    (ho : o.op = .call { callee := .builtin .append, args := #[s, x], argTypes := #[t, t] })
    (e : TypeId) (i : TypeInfo) (z : Value) (bytes base : Nat) (ht : P.underlying t = some (.slice e)) (hi : P.info? e = some i) (hz : i.zero = some z)
    (hsize : i.size = 1) (hby : i.bytes = bytes) (hzs : z.cells.size = 1) (v : Value) (n m N : Nat) (xs : List Value) (hs : a.eval s = v) (hown : w.ownsRow base e 1 v n xs) (xv : Value) (news : List Value) (hxv : a.eval x = xv) (hx : SlC w xv news) (h1 : ∀ u ∈ news, u.oneCell' = true) (hm : news.length = m) (hN : n + m = N)
    (h63 : N ≤ maxLen) (hbytes : N * bytes ≤ 140737488355328) (hbase : base ≤ w.heap.size)
    (h : ∀ a' c' w', w'.ownsRow base e 1 (.slice a' N c') N (xs ++ news) → w.grownBy w' v.ownBlock → K (a.put o.dst (.slice a' N c')) w') :
    if Region.wanted o (yielded ops a.tmps) = true then Oper.wp P o a w K Q else E := by
  subst hm
  subst hN
  have hw : Region.wanted o (yielded ops a.tmps) = true := by simp [Region.wanted, hgd]
  rw [if_pos hw]
  obtain ⟨a', c', w', hr, h2, h3⟩ := run_append_sl (P := P) w t o.type e i z bytes base ht hi hz hsize hby hzs v n xs hown xv news hx h1 h63 hbytes hbase
  unfold Oper.wp execOp
  simp only [ho, resolve, invoke, builtin, Sem.run_bind, Sem.run_pure, Result.andThen_ok, List.map_toArray, List.map_cons, List.map_nil, hs, hxv, hr]
  exact h a' c' w' h2 h3
theorem slc_box {W : World} {b : Nat} {u : Value} {e : TypeId} (h : W.heap[b]? = some (.cells #[u] e (0, 0))) : SlC W (.slice (some ⟨b, 0, none⟩) 1 1) [u] :=
  ⟨some ⟨b, 0, none⟩, 1, rfl, Nat.le_refl _, by decide, fun q => (by cases q), fun _ => ⟨b, 0, rfl, lt_of_block h, fun i v hi => by
    have h0 := box_cell (i := i) h
    rw [Nat.zero_add, h0]
    simpa using hi⟩⟩
theorem rb_b {w2 W1 : World} {cs : Array Value} {u : Value} {e : TypeId} (h : (((w2.alloc (.cells cs e)).alloc (.cells #[u] e)).drew).grownBy W1 (Value.slice (some ⟨w2.heap.size, 0, none⟩) 0 0).ownBlock) : SlC W1 (.slice (some ⟨w2.heap.size + 1, 0, none⟩) 1 1) [u] := by
  refine slc_box (e := e) ((h.block (w2.heap.size + 1) (by show _ < ((w2.alloc (.cells cs e)).alloc (.cells #[u] e)).heap.size; simp) (fun q => by simp [Value.ownBlock] at q)).trans ?_)
  have h2 := box_new (w2.alloc (.cells cs e)) #[u] e
  rw [World.size_alloc] at h2
  exact h2
theorem rb_c {w2 W1 : World} {cs : Array Value} {u : Value} {e : TypeId} (h : (((w2.alloc (.cells #[u] e)).alloc (.cells cs e)).drew).grownBy W1 (Value.slice (some ⟨w2.heap.size + 1, 0, none⟩) 0 0).ownBlock) : SlC W1 (.slice (some ⟨w2.heap.size, 0, none⟩) 1 1) [u] := by
  refine slc_box (e := e) ((h.block w2.heap.size (by show _ < ((w2.alloc (.cells #[u] e)).alloc (.cells cs e)).heap.size; simp; omega) (fun q => by simp [Value.ownBlock] at q)).trans ?_)
  exact box_alloc (box_new w2 #[u] e) _
/-- What is behind a place. -/
theorem SlC.rest {W : World} {a : Option Addr} {n c k : Nat} {cs : List Value} (h : SlC W (.slice a n c) cs) (hk : k ≤ cs.length) (a' : Option Addr) (ha : k < cs.length → ∀ b o, a = some ⟨b, o, none⟩ → a' = some ⟨b, o + k, none⟩) (hn : a' = none → c - k = 0) : SlC W (.slice a' (n - k) (c - k)) (cs.drop k) := by
  obtain ⟨a1, c1, e, k1, k2, k3, k4⟩ := h
  injection e with e1 e2 e3
  subst e1 e3
  refine ⟨a', c - k, by rw [List.length_drop, e2], by rw [List.length_drop]; omega, by omega, hn, fun q => ?_⟩
  have hlt : k < cs.length := by
    rcases Nat.lt_or_ge k cs.length with q2 | q2
    · exact q2
    · exact absurd (List.drop_of_length_le q2) q
  obtain ⟨b, o, e, hb, hc⟩ := k4 (fun e => by rw [e] at hlt; simp at hlt)
  refine ⟨b, o + k, ha hlt b o e, hb, fun i u hi => ?_⟩
  rw [Nat.add_assoc]
  exact hc (k + i) u (by rwa [List.getElem?_drop] at hi)
theorem SlC.cut {W : World} {a : Option Addr} {n c k : Nat} {cs : List Value} (h : SlC W (.slice a n c) cs) (hk : k ≤ cs.length) : SlC W (.slice a k c) (cs.take k) := by
  obtain ⟨a', c', e, k1, k2, k3, k4⟩ := h
  injection e with e1 e2 e3
  subst e1 e3
  refine ⟨a, c, by rw [List.length_take, Nat.min_eq_left hk], by rw [List.length_take]; omega, k2, k3, fun q => ?_⟩
  obtain ⟨b, o, e, hb, hc⟩ := k4 (fun e => q (by rw [e]; simp))
  refine ⟨b, o, e, hb, fun i u hi => hc i u ?_⟩
  have hik : i < k := by have := (List.getElem?_eq_some_iff.1 hi).1; rw [List.length_take] at this; omega
  rwa [List.getElem?_take_of_lt hik] at hi
theorem slc_none {B : Nat} {w W : World} {ad : Option Addr} {c : Nat} (hb : Below B w W) (hc : c ≤ maxLen := by first | exact Nat.zero_le _ | omega) (hn : ad = none → c = 0 := by first | exact fun _ => rfl | exact fun q => (by cases q)) : SlC W (.slice ad 0 c) [] := ⟨ad, c, rfl, Nat.zero_le _, hc, hn, fun h => absurd rfl h⟩
/-- Rows by their values. -/
theorem SlRK.vals {k : IntKind} {w : World} {v : Value} {ls : List (List Int)} (h : SlRK k w v ls) : ∃ vs : List Value, SlC w v vs ∧ vs.length = ls.length ∧ ∀ j, j < ls.length → SlI k w (vs.getD j undef) (rowN ls j) := by
  obtain ⟨rv, h1, h2⟩ := h
  refine ⟨_, h1, by simp, fun j hj => ?_⟩
  have : ((List.range ls.length).map rv).getD j undef = rv j := by simp [List.getD_eq_getElem?_getD, hj]
  rw [this]
  exact h2 j hj
theorem SlRK.of_vals {k : IntKind} {w : World} {v : Value} {vs : List Value} {ls : List (List Int)} (h1 : SlC w v vs) (hl : vs.length = ls.length) (h2 : ∀ j, j < ls.length → SlI k w (vs.getD j undef) (rowN ls j)) : SlRK k w v ls := by
  refine ⟨fun j => vs.getD j undef, ?_, h2⟩
  have : (List.range ls.length).map (fun j => vs.getD j undef) = vs := by
    apply List.ext_getElem
    · simp [hl]
    · intro i h1 h2
      have : i < vs.length := h2
      simp [List.getD_eq_getElem?_getD, List.getElem?_eq_getElem this]
  rw [this]
  exact h1
theorem rowN_set {ls : List (List Int)} {i j : Nat} {xs : List Int} (hi : i < ls.length) : rowN (ls.set i xs) j = if j = i then xs else rowN ls j := by
  unfold rowN
  simp only [List.getD_eq_getElem?_getD, List.getElem?_set]
  by_cases e : j = i
  · subst e; simp [hi]
  · rw [if_neg e, if_neg (fun q => e q.symm)]
/-- One row set. -/
theorem rows_set {w W : World} {g n cap i q base : Nat} {vs : List Value} {ls : List (List Int)} {x : Value} {xs : List Int} (hh : W.ownsRow w.heap.size 27 1 (.slice (some ⟨g, 0, none⟩) n cap) n vs) (hl : vs.length = ls.length) (hR : ∀ j, j < ls.length → SlI .i64 w (vs.getD j undef) (rowN ls j))
    (hx : W.ownsRow base 3 1 x q (xs.map (.int .i64))) (hwf : ∀ y ∈ xs, (Lit.int .i64 y).wf = true) (hb : Below w.heap.size w W) (hi : i < ls.length) :
    SlRK .i64 (W.setCell ⟨g, i, none⟩ x) (.slice (some ⟨g, 0, none⟩) n cap) (ls.set i xs) ∧ Below w.heap.size w (W.setCell ⟨g, i, none⟩ x) := by
  obtain ⟨hg, cur, hc⟩ := own_block hh
  have hbs := below_set (i := i) (u := x) hb hg
  refine ⟨SlRK.of_vals (SlC.of_owns (owns_set hh x)) (by simp [hl]) fun j hj => ?_, hbs⟩
  rw [List.length_set] at hj
  have hv : (vs.set i x).getD j undef = if j = i then x else vs.getD j undef := by
    simp only [List.getD_eq_getElem?_getD, List.getElem?_set]
    by_cases e : j = i
    · subst e; simp [hl, hi]
    · rw [if_neg e, if_neg (fun q => e q.symm)]
  rw [hv, rowN_set hi]
  by_cases e : j = i
  · rw [if_pos e, if_pos e]
    exact SlI.of_owns (own_set hx hc (by decide) x) hwf
  · rw [if_neg e, if_neg e]
    exact (hR j hj).later hbs
theorem getD_cut {α : Type} (d : α) (l : List α) (i j : Nat) (hi : i < l.length) : (l.take i ++ l.drop (i + 1)).getD j d = if j < i then l.getD j d else l.getD (j + 1) d := by
  simp only [List.getD_eq_getElem?_getD]
  by_cases h1 : j < i
  · rw [if_pos h1, List.getElem?_append_left (by rw [List.length_take]; omega), List.getElem?_take_of_lt h1]
  · rw [if_neg h1, List.getElem?_append_right (by rw [List.length_take]; omega), List.length_take, Nat.min_eq_left (by omega), List.getElem?_drop]
    rw [show i + 1 + (j - i) = j + 1 from by omega]
/-- One row left out. -/
theorem rows_cut {w W : World} {i N base : Nat} {v : Value} {vs : List Value} {ls : List (List Int)} (ho : W.ownsRow base 27 1 v N (vs.take i ++ vs.drop (i + 1))) (hl : vs.length = ls.length) (hR : ∀ j, j < ls.length → SlI .i64 w (vs.getD j undef) (rowN ls j)) (hb : Below w.heap.size w W) (hi : i < ls.length) :
    SlRK .i64 W v (ls.take i ++ ls.drop (i + 1)) := by
  refine SlRK.of_vals (SlC.of_owns ho) (by simp [hl]) fun j hj => ?_
  have hj' : j + 1 < ls.length := by simp at hj; omega
  rw [getD_cut undef vs i j (by omega)]
  unfold rowN
  rw [getD_cut [] ls i j hi]
  by_cases h1 : j < i
  · rw [if_pos h1, if_pos h1]; exact (hR j (by omega)).later hb
  · rw [if_neg h1, if_neg h1]; exact (hR (j + 1) hj').later hb
/-- One row put between. -/
theorem getD_put {α : Type} (d x : α) (l : List α) (k j : Nat) (hk : k ≤ l.length) : (l.take k ++ [x] ++ l.drop k).getD j d = if j < k then l.getD j d else if j = k then x else l.getD (j - 1) d := by
  simp only [List.getD_eq_getElem?_getD]
  by_cases h1 : j < k
  · rw [if_pos h1, List.append_assoc, List.getElem?_append_left (by rw [List.length_take]; omega), List.getElem?_take_of_lt h1]
  · rw [if_neg h1, List.append_assoc, List.getElem?_append_right (by rw [List.length_take]; omega), List.length_take, Nat.min_eq_left (by omega)]
    by_cases h2 : j = k
    · subst h2; simp
    · rw [if_neg h2]
      obtain ⟨m, hm⟩ : ∃ m, j - k = m + 1 := ⟨j - k - 1, by omega⟩
      rw [hm]
      simp only [List.singleton_append, List.getElem?_cons_succ, List.getElem?_drop]
      rw [show k + m = j - 1 from by omega]
theorem rows_put {w : World} {vs : List Value} {ls : List (List Int)} {u : Value} {r : List Int} {k : Nat} (hl : vs.length = ls.length) (hR : ∀ j, j < ls.length → SlI .i64 w (vs.getD j undef) (rowN ls j)) (hk : k ≤ ls.length) (hu : SlI .i64 w u r) :
    (vs.take k ++ [u] ++ vs.drop k).length = (ls.take k ++ [r] ++ ls.drop k).length ∧ ∀ j, j < (ls.take k ++ [r] ++ ls.drop k).length → SlI .i64 w ((vs.take k ++ [u] ++ vs.drop k).getD j undef) (rowN (ls.take k ++ [r] ++ ls.drop k) j) := by
  refine ⟨by simp [hl], fun j hj => ?_⟩
  rw [getD_put undef u vs k j (by omega)]
  unfold rowN
  rw [getD_put [] r ls k j hk]
  by_cases h1 : j < k
  · rw [if_pos h1, if_pos h1]; exact hR j (by omega)
  · rw [if_neg h1, if_neg h1]
    by_cases h2 : j = k
    · rw [if_pos h2, if_pos h2]; exact hu
    · rw [if_neg h2, if_neg h2]
      refine hR (j - 1) ?_
      simp at hj
      omega
theorem old_oneCell {w : World} {v : Value} {r : List Int} (h : SlI .i64 w v r) : v.oneCell' = true := by
  obtain ⟨a, c, rfl, -⟩ := h.open
  simp [Value.oneCell']
/-- A row without one of its numbers. -/
def dropAt (e : List Int) (k : Nat) : List Int := e.take k ++ e.drop (k + 1)
/-- Is there an edge, among the first, that takes this one in? -/
def goesTo (ls : List (List Int)) (i k : Nat) : Bool := decide ((rowN ls i).length = 0) || (List.range k).any fun j => decide (j ≠ i) && withinB (rowN ls i) (rowN ls j)
theorem goesTo_next (ls : List (List Int)) (i k : Nat) : goesTo ls i (k + 1) = (goesTo ls i k || (decide (k ≠ i) && withinB (rowN ls i) (rowN ls k))) := by
  unfold goesTo
  rw [List.range_succ, List.any_append, Bool.or_assoc]
  simp
/-- Nothing can be done at the first edges. -/
def Stuck (ls : List (List Int)) (i : Nat) : Prop := ∀ j, j < i → (∀ t, t < (rowN ls j).length → manyL ls ((rowN ls j).getD t 0) ≠ 1) ∧ goesTo ls j ls.length = false
/-- One step. -/
def StepP (ls ls' : List (List Int)) (b : Bool) : Prop :=
  (b = false ∧ ls' = ls ∧ Stuck ls ls.length) ∨ (b = true ∧ ∃ i, i < ls.length ∧ ((∃ k, k < (rowN ls i).length ∧ manyL ls ((rowN ls i).getD k 0) = 1 ∧ ls' = ls.set i (dropAt (rowN ls i) k)) ∨ (goesTo ls i ls.length = true ∧ ls' = ls.take i ++ ls.drop (i + 1))))
end Go.Proofs.YtplidcbfbonjlaaDoor
