/-
  Rows of relations of the call's own; the cut relations of HashedAll.
-/
import Derived.Test.YtdeiinfljfgmeaaHaRg3
import Derived.Test.YtdeiinfljfgmeaaHaOwn
import Derived.Test.YtdeiinfljfgmeaaHaWakes
namespace Go.Proofs.Ytdeiinfljfgmeaa
open Go.RowKit
set_option linter.unusedVariables false
set_option linter.unusedSimpArgs false

def cut6 (R : Rl) : Rl := ⟨(cutL R).vars, (cutL R).rows.take 6⟩
def cuts (Rs : List Rl) : List Rl := (Rs.take 4).map cut6
theorem cuts_len (Rs : List Rl) : (cuts Rs).length = min 4 Rs.length := by
  unfold cuts
  rw [List.length_map, List.length_take]
theorem cut6_small (R : Rl) : (cut6 R).vars.length ≤ 8 ∧ (cut6 R).rows.length ≤ 6 := by
  constructor
  · show (R.vars.take 8).length ≤ 8
    rw [List.length_take]
    omega
  · show ((cutL R).rows.take 6).length ≤ 6
    rw [List.length_take]
    omega
theorem cuts_small (Rs : List Rl) : Small (cuts Rs) := by
  refine ⟨by rw [cuts_len]; omega, fun R hR => ?_⟩
  unfold cuts at hR
  obtain ⟨S, -, rfl⟩ := List.mem_map.1 hR
  exact cut6_small S
theorem cuts_at {Rs : List Rl} {k : Nat} (h : k < Rs.length) (h4 : k < 4) : relN (cuts Rs) k = cut6 (relN Rs k) := by
  have hk : k < (cuts Rs).length := by rw [cuts_len]; omega
  rw [relN_at hk, relN_at h]
  simp only [cuts, List.getElem_map, List.getElem_take]
theorem owns_take {W : World} {base : Nat} {e : TypeId} {a : Option Addr} {n c q : Nat} {xs : List Value} (h : W.ownsRow base e 1 (.slice a n c) n xs) (hq : q ≤ n) : W.ownsRow base e 1 (.slice a q c) q (xs.take q) := by
  obtain ⟨h1, h2⟩ := h
  refine ⟨by rw [List.length_take]; omega, ?_⟩
  rcases h2 with ⟨h2, h3⟩ | ⟨g, cap, cur, h2, hb, hg, k1, k2, k3, k4⟩
  · injection h2 with e1 e2 e3
    subst e1 e2 e3
    obtain rfl : q = 0 := by omega
    exact .inl ⟨rfl, rfl⟩
  · injection h2 with e1 e2 e3
    subst e1 e3
    refine .inr ⟨g, c, cur, rfl, hb, hg, by omega, k2, k3, ?_⟩
    rw [← k4, List.take_take]
    congr 1
    omega
theorem OwnRl.cut {base : Nat} {W : World} {vv : Value} {a : Option Addr} {n c q : Nat} {R : Rl} (h : OwnRl base W vv (.slice a n c) R) (hn : R.rows.length = n) (hq : q ≤ n) : OwnRl base W vv (.slice a q c) ⟨R.vars, R.rows.take q⟩ := by
  obtain ⟨ps, h1, h2⟩ := h.rows
  have hl : ps.length = n := by rw [← hn, ← h2, List.length_map]
  have ho := h1.own
  rw [hl] at ho
  refine ⟨h.vars, h.wf, ps.take q, ⟨?_, fun p hp => h1.rows p (List.mem_of_mem_take hp)⟩, by rw [List.map_take, h2]⟩
  rw [List.length_take, hl, Nat.min_eq_left hq, List.map_take]
  exact owns_take ho hq
theorem OwnRl.grown {base base' size n : Nat} {W W' : World} {vv rv u : Value} {R : Rl} {xs : List Value} (h : OwnRl base W vv rv R) (hu : W.ownsRow base' 25 size u n xs) (hg : W.grownBy W' u.ownBlock) : OwnRl base W' vv rv R := by
  obtain ⟨ps, h1, h2⟩ := h.rows
  exact ⟨own_grown hu hg h.vars (by decide), h.wf, ps, ⟨own_grown hu hg h1.own (by decide), fun p hp => ⟨own_grown hu hg (h1.rows p hp).1 (by decide), (h1.rows p hp).2⟩⟩, h2⟩
/-- A row of relations of the call's own. -/
structure OwnRs (base : Nat) (W : World) (v : Value) (es : List (Value × Value × Rl)) : Prop where
  own : W.ownsRow base 25 2 v es.length (es.flatMap fun p => [p.1, p.2.1])
  rows : ∀ p ∈ es, OwnRl base W p.1 p.2.1 p.2.2
section
variable {base : Nat} {W W' : World} {v : Value} {es : List (Value × Value × Rl)}
theorem OwnRs.nil : OwnRs base W (.slice none 0 0) [] := ⟨World.ownsRow_nil _ _ _ _, fun p hp => by cases hp⟩
theorem OwnRs.later (h : OwnRs base W v es) (hb : Below W.heap.size W W') : OwnRs base W' v es := ⟨owns_later h.own hb, fun p hp => (h.rows p hp).later hb⟩
theorem OwnRs.setB {X i : Nat} {a b : Value} (h : OwnRs base W v es) (hX : RB W X a b) (hne : ∀ g, v.ownBlock = some g → g ≠ X) (u : Value) : OwnRs base (W.setCell ⟨X, i, none⟩ u) v es :=
  ⟨ownsRow_setCell_other h.own (a := ⟨X, i, none⟩) (fun h' => hne _ h' rfl) u, fun p hp => (h.rows p hp).set hX u⟩
theorem pairs_at : ∀ {es : List (Value × Value × Rl)} {k : Nat} (h : k < es.length), (es.flatMap fun p => [p.1, p.2.1])[k * 2]? = some es[k].1 ∧ (es.flatMap fun p => [p.1, p.2.1])[k * 2 + 1]? = some es[k].2.1
  | [], k, h => by simp at h
  | p :: es, 0, h => by simp
  | p :: es, k + 1, h => by
    have := pairs_at (es := es) (k := k) (by simpa using h)
    rw [List.flatMap_cons, show (k + 1) * 2 = k * 2 + 1 + 1 by omega]
    exact this
theorem pairs_len (es : List (Value × Value × Rl)) : (es.flatMap fun p => [p.1, p.2.1]).length = es.length * 2 := by
  induction es with
  | nil => rfl
  | cons p es ih => rw [List.flatMap_cons, List.length_append, ih]; simp; omega
theorem OwnRs.slRl (h : OwnRs base W v es) : SlRl W v (es.map fun p => p.2.2) := by
  rcases h.own.2 with ⟨rfl, hn⟩ | ⟨g, cap, cur, rfl, hb, hg, k1, k2, k3, k4⟩
  · obtain rfl : es = [] := List.eq_nil_of_length_eq_zero hn
    exact ⟨none, 0, rfl, by simp, fun h => by simp at h⟩
  · refine ⟨some ⟨g, 0, none⟩, cap, by rw [List.length_map], by rw [List.length_map]; unfold maxLen at k2; omega, fun h0 => ⟨g, 0, rfl, fun k hk => ?_⟩⟩
    rw [List.length_map] at hk
    obtain ⟨p1, p2⟩ := pairs_at hk
    have hc : ∀ i u, i < es.length * 2 → (es.flatMap fun p => [p.1, p.2.1])[i]? = some u → W.cell? ⟨g, 0 + i, none⟩ = some u := fun i u hi hu => by
      simp only [World.cell?, hg, Nat.zero_add]
      rw [← k4, List.getElem?_take_of_lt hi] at hu
      simpa using hu
    refine ⟨es[k].1, es[k].2.1, hc _ _ (by omega) p1, by rw [Nat.add_assoc]; exact hc _ _ (by omega) p2, ?_⟩
    have e : relN (es.map fun p => p.2.2) k = es[k].2.2 := by rw [relN_at (by simpa using hk), List.getElem_map]
    rw [e]
    exact (h.rows _ (List.getElem_mem hk)).rlR
/-- One more, laid by an append. -/
theorem OwnRs.next {wC w6 : World} {a : Option Addr} {c : Nat} {vv rv v6 : Value} {R : Rl} (hown : OwnRs base wC (.slice a es.length c) es) (hO : OwnRl base wC vv rv R)
    (hown6 : w6.ownsRow base 25 2 v6 (es.length + 1) ((es.flatMap fun p => [p.1, p.2.1]) ++ [vv, rv])) (hgrow6 : (wC.alloc (.cells #[vv, rv] 25)).grownBy w6 (Value.slice a es.length c).ownBlock) : OwnRs base w6 v6 (es ++ [(vv, rv, R)]) := by
  have hA := later_alloc wC (.cells #[vv, rv] 25)
  have ho := owns_later hown.own hA
  refine ⟨by simpa using hown6, fun p hp => ?_⟩
  rcases List.mem_append.1 hp with hp | hp
  · exact ((hown.rows p hp).later hA).grown ho hgrow6
  · obtain rfl := List.mem_singleton.1 hp
    exact (hO.later hA).grown ho hgrow6
end
theorem info_rel : (Try.prog.info? 25).map (fun i => (i.zero, i.size, i.bytes)) = some (some (.agg #[.slice none 0 0, .slice none 0 0]), 2, 48) := by kernel_rfl
def nilL : Rl := ⟨[], []⟩
theorem nil_rlR (W : World) : RlR W (.slice none 0 0) (.slice none 0 0) nilL := ⟨SlI.nil _ _, SlRK.nil _ _⟩
/-- All right so far. -/
def okTo (Ds : List Rl) (k : Nat) : Bool := (Ds.take k).all rightB
theorem okTo_succ {Ds : List Rl} {k : Nat} (h : k < Ds.length) : okTo Ds (k + 1) = (okTo Ds k && rightB (relN Ds k)) := by
  unfold okTo
  rw [List.take_succ_eq_append_getElem h, List.all_append, relN_at h]
  simp
theorem okTo_at {Ds : List Rl} {k j : Nat} (h : okTo Ds k = true) (hj : j < k) (hk : k ≤ Ds.length) : rightB (relN Ds j) = true := by
  unfold okTo at h
  rw [relN_at (by omega)]
  refine List.all_eq_true.1 h _ ?_
  rw [← List.getElem_take (j := k) (h := by rw [List.length_take]; omega)]
  exact List.getElem_mem _
end Go.Proofs.Ytdeiinfljfgmeaa
