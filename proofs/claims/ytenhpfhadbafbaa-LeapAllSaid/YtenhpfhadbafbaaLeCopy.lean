/-
  copy of a whole row into a new one.
-/
import Derived.Test.YtenhpfhadbafbaaRows
import Derived.WalkKit
import Derived.WalkSpells
import Derived.WalkLawsBesides
import Derived.OwnWalk
import Derived.Laws.CopyOwn
import Derived.Test.YtenhpfhadbafbaaBase2
import Derived.Test.YtenhpfhadbafbaaLib
namespace Go.Proofs.Ytenhpfhadbafbaa
open Go.RowKit
set_option linter.unusedVariables false

theorem run_copy_whole {P : Program} (w : World) (dT sT ty elem : TypeId) (size g n dCap : Nat) (v : Value) (cs : List Value) (cur : Array Value) (t : TypeId)
    (hu : P.underlying dT = some (.slice elem)) (hs : (P.info? elem).map (·.size) = some size) (hv : SlS size w v n cs)
    (hg : w.heap[g]? = some (.cells cur t (0, 0))) (hcur : cur.size = n * size) (h1 : ∀ u ∈ cs, u.oneCell' = true) :
    ∃ w', (Builtin.copy_ #[dT, sT] ty #[.slice (some ⟨g, 0, none⟩) n dCap, v]).run P w = .ok (goInt n) w' ∧ w'.heap[g]? = some (.cells cs.toArray t (0, 0)) ∧ w.grownBy w' (some g) := by
  obtain ⟨h0, a, c, rfl, h2, h3, h4, h5⟩ := hv
  cases hq : P.info? elem with
  | none => simp [hq] at hs
  | some i =>
    have hi : i.size = size := by simpa [hq] using hs
    by_cases hn : n = 0
    · subst hn
      obtain rfl : cs = [] := List.eq_nil_of_length_eq_zero (by omega)
      have hc0 : cur = #[] := by simpa using hcur
      subst hc0
      have hf : ∀ a, (Builtin.firstCells size 0 (.slice a 0 c)).run P w = .ok #[] w := fun a => by
        cases a with
        | none => exact run_firstCells_none _ _ _ _ _
        | some ad => exact run_firstCells_some w size 0 ad 0 c [] (by simp) (fun j v h => by simp at h)
      refine ⟨w, ?_, hg, World.grownBy.refl _ _⟩
      simp [Builtin.copy_, run_underlying hu, Builtin.lenOf, sizeOf, typeInfo, hq, hi, hf, storeCells]
    · obtain ⟨b, o, rfl, hb, hc⟩ := h5 (by omega)
      have hl := run_firstCells_some (P := P) w size n ⟨b, o, none⟩ n c cs h0 (fun j u hj => by rw [add_mk]; exact hc j u hj)
      have hst := run_storeCells_at P g 0 t cs 0 cur w hg (by simp; omega) h1
      refine ⟨w.setRow g cs.toArray, ?_, setRow_heap w g cur _ t _ hg, ⟨rfl, rfl, rfl, by simp [World.setRow], fun k hk hne => setRow_other w g k _ (fun e => hne (by rw [e]))⟩⟩
      have e : (cur.toList.take (0 + 0) ++ cs ++ cur.toList.drop (0 + 0 + cs.length)).toArray = cs.toArray := by
        rw [List.drop_of_length_le (by simp; omega)]; simp
      rw [e] at hst
      simp [Builtin.copy_, run_underlying hu, Builtin.lenOf, sizeOf, typeInfo, hq, hi, hl, hst]
theorem wpList_copy_whole {P : Program} {w : World} {ops : Array Oper} {rest : List Oper} {o : Oper} {a : Act} {Q : Exit → Act → World → Prop} (hgd : o.guard = none) (d s : Operand) (dT sT : TypeId)
    (ho : o.op = .call { callee := .builtin .copy, args := #[d, s], argTypes := #[dT, sT] }) (elem : TypeId) (size g n dCap : Nat) (v : Value) (cs : List Value) (cur : Array Value) (t : TypeId)
    (hu : P.underlying dT = some (.slice elem)) (hsz : (P.info? elem).map (·.size) = some size) (hd : a.eval d = .slice (some ⟨g, 0, none⟩) n dCap) (hs : a.eval s = v) (hv : SlS size w v n cs)
    (hg : w.heap[g]? = some (.cells cur t (0, 0))) (hcur : cur.size = n * size) (h1 : ∀ u ∈ cs, u.oneCell' = true)
    (h : ∀ w', w'.heap[g]? = some (.cells cs.toArray t (0, 0)) → w.grownBy w' (some g) → wpList P ops Q rest (a.put o.dst (goInt n)) w') : wpList P ops Q (o :: rest) a w := by
  refine wpList_plain hgd fun K hK => ?_
  obtain ⟨w', hrun, k1, k2⟩ := run_copy_whole (P := P) w dT sT o.type elem size g n dCap v cs cur t hu hsz hv hg hcur h1
  unfold Oper.wp
  simp [execOp, ho, resolve, invoke, builtin, hd, hs, hrun, Result.andThen]
  exact hK _ _ (h w' k1 k2)
theorem owns_blockS {w : World} {base size : Nat} {e : TypeId} {g n : Nat} {xs : List Value} (h : w.ownsRow base e size (.slice (some ⟨g, 0, none⟩) n n) n xs) : ∃ cur, w.heap[g]? = some (.cells cur e (0, 0)) ∧ cur.size = n * size := by
  rcases h.2 with ⟨h', _⟩ | ⟨g', cap, cur, hv, _, hh, _, _, h3, h4⟩
  · cases h'
  · cases hv
    exact ⟨cur, hh, h3⟩
theorem owns_copied {w : World} {base size : Nat} {e : TypeId} {g n : Nat} {cs : List Value} (hg : w.heap[g]? = some (.cells cs.toArray e (0, 0))) (hb : base ≤ g) (hn : n ≤ maxLen) (hl : cs.length = n * size) : w.ownsRow base e size (.slice (some ⟨g, 0, none⟩) n n) n cs :=
  ⟨hl, .inr ⟨g, n, cs.toArray, rfl, hb, hg, Nat.le_refl _, hn, by simpa using hl, List.take_of_length_le (by simp; omega)⟩⟩


theorem sls_ofI {k : IntKind} {w : World} {v : Value} {xs : List Int} (h : SlI k w v xs) : SlS 1 w v xs.length (xs.map (.int k)) := by
  obtain ⟨⟨a, c, k1, k2, k3, k4, k5⟩, _⟩ := h
  simp only [List.length_map] at k1 k2
  cases k1
  exact ⟨by simp, a, c, rfl, k2, k3, k4, fun h0 => k5 (by intro e; have := congrArg List.length e; simp at this; rw [this] at h0; simp at h0)⟩
end Go.Proofs.Ytenhpfhadbafbaa
