/-
  Rows of the call's own, boxes beside them; and the run of a trie. No program in sight.
-/
import Derived.WalkKit
import Derived.WalkSpells
import Derived.Laws.AppendOwnNone
import Derived.Deep.AppendLies
import Derived.RangeFuncBox
import Derived.Lib.Hide
import Derived.Test.YtdfnfdgkhflonaaBase
import Derived.Test.YtdfnfdgkhflonaaBase2
import Derived.Test.YtdfnfdgkhflonaaTPlain
import Derived.Test.YtdfnfdgkhflonaaTCmp
import Derived.Test.YtdfnfdgkhflonaaTRunC
namespace Go.Proofs.Ytdfnfdgkhflonaa
open Go.RowKit
set_option linter.unusedVariables false

theorem owns_drewN {w : World} {base : Nat} {e : TypeId} {size : Nat} {v : Value} {n : Nat} {xs : List Value} (h : w.ownsRow base e size v n xs) (m : Nat) : (w.drewN m).ownsRow base e size v n xs := h
theorem owns_above {w : World} {base : Nat} {e : TypeId} {size : Nat} {v : Value} {n : Nat} {xs : List Value} (h : w.ownsRow base e size v n xs) : ∀ k, v.ownBlock = some k → base ≤ k := fun k hk => (h.lt k hk).1
theorem owns_shape {w : World} {base : Nat} {e : TypeId} {size : Nat} {v : Value} {n : Nat} {xs : List Value} (h : w.ownsRow base e size v n xs) : ∃ a m c, v = .slice a m c ∧ Hid (m = n) := by
  rcases h.2 with ⟨rfl, rfl⟩ | ⟨g, cap, cur, rfl, _⟩
  · exact ⟨_, _, _, rfl, Lib.hid rfl⟩
  · exact ⟨_, _, _, rfl, Lib.hid rfl⟩
/-- The same with the length said. -/
theorem owns_shape2 {w : World} {base : Nat} {e : TypeId} {size : Nat} {v : Value} {n : Nat} {xs : List Value} (h : w.ownsRow base e size v n xs) : ∃ a c, v = .slice a n c := by
  rcases h.2 with ⟨rfl, rfl⟩ | ⟨g, cap, cur, rfl, _⟩
  · exact ⟨_, _, rfl⟩
  · exact ⟨_, _, rfl⟩
theorem owns_later {w w' : World} {base : Nat} {e : TypeId} {size : Nat} {v : Value} {n : Nat} {xs : List Value} (h : w.ownsRow base e size v n xs) (hb : Below w.heap.size w w') : w'.ownsRow base e size v n xs := by
  obtain ⟨h1, h2⟩ := h
  refine ⟨h1, ?_⟩
  rcases h2 with h2 | ⟨g, cap, cur, hv, hg, hh, r⟩
  · exact .inl h2
  · exact .inr ⟨g, cap, cur, hv, hg, by rw [hb.block g (lt_of_block hh)]; exact hh, r⟩
theorem owns_down {w : World} {base base' : Nat} {e : TypeId} {size : Nat} {v : Value} {n : Nat} {xs : List Value} (h : w.ownsRow base e size v n xs) (hb : base' ≤ base) : w.ownsRow base' e size v n xs := by
  obtain ⟨h1, h2⟩ := h
  refine ⟨h1, ?_⟩
  rcases h2 with h2 | ⟨g, cap, cur, hv, hg, r⟩
  · exact .inl h2
  · exact .inr ⟨g, cap, cur, hv, Nat.le_trans hb hg, r⟩
/-- A block of another type is not the row's own. -/
theorem own_ne {w : World} {base : Nat} {e e' : TypeId} {size : Nat} {v : Value} {n : Nat} {xs : List Value} {b : Nat} {cs : Array Value} {fr : Nat × Nat} (h : w.ownsRow base e size v n xs) (hb : w.heap[b]? = some (.cells cs e' fr)) (hne : e ≠ e') : some b ≠ v.ownBlock := by
  rcases h.2 with ⟨rfl, rfl⟩ | ⟨g, cap, cur, rfl, hg, hh, r⟩
  · simp [Value.ownBlock]
  · intro he
    simp [Value.ownBlock] at he
    subst he
    rw [hb] at hh
    cases hh
    exact hne rfl
/-- A block of another type stays where a row grows. -/
theorem box_grown {w w' : World} {base : Nat} {e e' : TypeId} {size : Nat} {v : Value} {n : Nat} {xs : List Value} {b : Nat} {cs : Array Value} {fr : Nat × Nat} (h : w.ownsRow base e size v n xs) (hg : w.grownBy w' v.ownBlock) (hb : w.heap[b]? = some (.cells cs e' fr)) (hne : e ≠ e') : w'.heap[b]? = some (.cells cs e' fr) :=
  (hg.block b (lt_of_block hb) (own_ne h hb hne)).trans hb
theorem box_cell {w : World} {b i : Nat} {cs : Array Value} {e : TypeId} {fr : Nat × Nat} (h : w.heap[b]? = some (.cells cs e fr)) : w.cell? ⟨b, i, none⟩ = cs[i]? := by simp [World.cell?, h]
theorem box_alloc {w : World} {b : Nat} {cs : Array Value} {e : TypeId} {fr : Nat × Nat} (h : w.heap[b]? = some (.cells cs e fr)) (o : Obj) : (w.alloc o).heap[b]? = some (.cells cs e fr) := by
  rw [(later_alloc w o).block b (lt_of_block h)]; exact h
theorem box_new (w : World) (cs : Array Value) (e : TypeId) : (w.alloc (.cells cs e)).heap[w.heap.size]? = some (.cells cs e (0, 0)) := by show (w.heap.push _)[w.heap.size]? = _; simp
theorem cells_new (w : World) (cs : List Value) (t : TypeId) (j : Nat) (u : Value) (h : cs[j]? = some u) : (w.alloc (.cells cs.toArray t)).cell? ((⟨w.heap.size, 0, none⟩ : Addr).add j) = some u := by
  rw [add_mk, Nat.zero_add, World.cell?_alloc_new]; simpa using h

/-- The first q leaves from place f on, with their key. -/
def segTo (L : List Int) (k : Int) (f q : Nat) : List Pr := ((L.drop f).take q).map (fun x => ⟨k, x⟩)
/-- The pairs of a branch. -/
def segOf (L : List Int) (b : Br) : List Pr := segTo L b.k b.f.toNat (b.t.toNat - b.f.toNat)
/-- The run of the first branches. -/
def runTo (B : List Br) (L : List Int) (i : Nat) : List Pr := (B.take i).flatMap (segOf L)
/-- The run of a trie. -/
def runOf (B : List Br) (L : List Int) : List Pr := B.flatMap (segOf L)
theorem segTo_zero (L : List Int) (k : Int) (f : Nat) : segTo L k f 0 = [] := by simp [segTo]
theorem segTo_succ {L : List Int} {k : Int} {f q : Nat} (h : f + q < L.length) : segTo L k f (q + 1) = segTo L k f q ++ [⟨k, L[f + q]⟩] := by
  unfold segTo
  rw [List.take_succ_eq_append_getElem (by simp; omega), List.map_append]
  simp
theorem segTo_len {L : List Int} {k : Int} {f q : Nat} (h : f + q ≤ L.length) : (segTo L k f q).length = q := by simp [segTo]; omega
theorem runTo_zero (B : List Br) (L : List Int) : runTo B L 0 = [] := by simp [runTo]
theorem runTo_succ {B : List Br} {L : List Int} {i : Nat} (h : i < B.length) : runTo B L (i + 1) = runTo B L i ++ segOf L B[i] := by
  unfold runTo
  rw [List.take_succ_eq_append_getElem h, List.flatMap_append]
  simp
theorem runTo_all {B : List Br} {L : List Int} {i : Nat} (h : B.length ≤ i) : runTo B L i = runOf B L := by
  unfold runTo runOf; rw [List.take_of_length_le h]
theorem runTo_len {B : List Br} {L : List Int} (h : ∀ j, j < B.length → BrOk B L j) {i : Nat} (hi : i ≤ B.length) : ((runTo B L i).length : Int) = endAt B i := by
  induction i with
  | zero => simp [runTo, endAt]
  | succ i ih =>
    have ih := ih (by omega)
    obtain ⟨h1, h2, h3, _⟩ := h i (by omega)
    have h0 := endAt_nonneg (n := i) (fun j hj => h j (by omega))
    have hg : B.getD i Br.no = B[i] := by simp [List.getD, List.getElem?_eq_getElem (show i < B.length by omega)]
    rw [hg] at h1 h2 h3
    have e : endAt B (i + 1) = B[i].t := by show (B.getD i Br.no).t = _; rw [hg]
    rw [runTo_succ (by omega), List.length_append, e]
    have h4 : (segOf L B[i]).length = B[i].t.toNat - B[i].f.toNat := segTo_len (by omega)
    rw [h4]
    omega
end Go.Proofs.Ytdfnfdgkhflonaa
