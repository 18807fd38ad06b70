/-
  append of a whole slice, read as I read slices, to a row of the call's own.
-/
import Derived.Laws.AppendOwnNone
import Derived.OwnWalk
import Derived.Test.YtdmfhlfhlflakaaDoorBase
import Derived.Test.YtdmfhlfhlflakaaDoorBase2
namespace Go.Proofs.YtdmfhlfhlflakaaDoor
open Go.RowKit
set_option linter.unusedVariables false

theorem SlC.slS {w : World} {v : Value} {cs : List Value} (h : SlC w v cs) : SlS 1 w v cs.length cs := by
  obtain ⟨a, c, rfl, h1, h2, h3, h4⟩ := h
  exact ⟨by simp, a, c, rfl, h1, h2, h3, fun h0 => h4 (by intro e; subst e; simp at h0)⟩

theorem wpList_append_sl {P : Program} (w : World) {ops : Array Oper} {rest : List Oper} {o : Oper} {a : Act} {Q : Exit → Act → World → Prop} (hgd : o.guard = none) (s x : Operand) (t : TypeId)
    (ho : o.op = .call { callee := .builtin .append, args := #[s, x], argTypes := #[t, t] })
    (base : Nat) (e : TypeId) (i : TypeInfo) (z : Value) (size bytes : Nat) (ht : P.underlying t = some (.slice e)) (hi : P.info? e = some i) (hz : i.zero = some z)
    (hsize : i.size = size) (hby : i.bytes = bytes) (hzs : z.cells.size = size) (hsz : 0 < size)
    (v : Value) (n : Nat) (xs : List Value) (hs : a.eval s = v) (hown : w.ownsRow base e size v n xs)
    (vx : Value) (m : Nat) (news : List Value) (hx : a.eval x = vx) (hnews : SlS size w vx m news) (h1 : ∀ u ∈ news, u.oneCell' = true)
    (h63 : n + m ≤ maxLen) (hbytes : (n + m) * bytes ≤ 140737488355328) (hbase : base ≤ w.heap.size)
    (h : ∀ v' w', w'.ownsRow base e size v' (n + m) (xs ++ news) → w.grownBy w' v.ownBlock → wpList P ops Q rest (a.put o.dst v') w') : wpList P ops Q (o :: rest) a w := by
  obtain ⟨hl, ad, c, rfl, g1, g2, g3, g4⟩ := hnews
  cases ad with
  | none =>
    obtain rfl : c = 0 := g3 rfl
    obtain rfl : m = 0 := by omega
    obtain rfl : news = [] := List.eq_nil_of_length_eq_zero (by omega)
    refine wpList_append_own_none hgd s x t ho base e i size ht hi v n xs hs hown hx (h v w (by simpa using hown) (World.grownBy.refl _ _))
  | some ad =>
    refine wpList_append_own w hgd s x t ho base e i z size bytes ht hi hz hsize hby hzs hsz v n xs hs hown ad m c news hx hl (fun j u hj => ?_) h1 h63 hbytes hbase (fun v' w' k1 k2 _ => h v' w' k1 k2)
    have hj' := (List.getElem?_eq_some_iff.1 hj).1
    have hm : 0 < m := by
      rcases Nat.eq_zero_or_pos m with e | e
      · subst e; omega
      · exact e
    obtain ⟨b, o', e', hb, hc⟩ := g4 hm
    cases e'
    rw [add_mk]
    exact hc j u hj
end Go.Proofs.YtdmfhlfhlflakaaDoor
