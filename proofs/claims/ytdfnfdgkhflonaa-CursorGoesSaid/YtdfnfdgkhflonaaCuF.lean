/-
  The cursor said plainly: the places of its rows, and its moves; each move's contract.
-/
import Derived.Test.YtdfnfdgkhflonaaCuE
import Derived.Test.YtdfnfdgkhflonaaTPlain
namespace Go.Proofs.Ytdfnfdgkhflonaa
open Go.RowKit
set_option linter.unusedVariables false

/-- The keys of a trie's branches. -/
def keysOf (bs : List Br) : List Int := bs.map (·.k)
/-- The leaves of a branch. -/
def leavesOf (ls : List Int) (b : Br) : List Int := (ls.drop b.f.toNat).take (b.t.toNat - b.f.toNat)
/-- The row where a cursor stands. -/
def rowAt (bs : List Br) (ls : List Int) : List Nat → List Int
  | [_] => keysOf bs
  | [i, _] => leavesOf ls (bs.getD i Br.no)
  | _ => []
/-- The place in it. -/
def lastAt (ats : List Nat) : Nat := ats.getLast?.getD 0
/-- Does it stand at the row's end? -/
def atEnd (bs : List Br) (ls : List Int) (ats : List Nat) : Bool := decide (ats ≠ []) && decide (lastAt ats = (rowAt bs ls ats).length)
/-- Why a move can't be made. -/
def whyQ (bs : List Br) (ls : List Int) (ats : List Nat) (kind : Int) : Int :=
  if kind = 1 ∧ ats.length = 2 ∨ kind ≠ 1 ∧ ats = [] then 2 else if kind ≠ 2 ∧ atEnd bs ls ats = true then 4 else 0
/-- The places behind a move. -/
def moved (bs : List Br) (ls : List Int) (kind key : Int) (ats : List Nat) : List Nat :=
  if kind = 1 then ats ++ [0] else if kind = 2 then ats.dropLast else if kind = 3 then ats.dropLast ++ [lastAt ats + 1] else ats.dropLast ++ [place (rowAt bs ls ats) (lastAt ats) (geB key)]
/-- The steps of a move. -/
def Steps (bs : List Br) (ls : List Int) (kind key : Int) (ats : List Nat) (n : Int) : Prop :=
  if kind = 2 then n = 0 else if kind = 4 then ∃ looks : Nat, FewR (rowAt bs ls ats).length (lastAt ats) (fun j => geB key ((rowAt bs ls ats).getD j 0)) (place (rowAt bs ls ats) (lastAt ats) (geB key)) looks ∧ n = looks else n = 1

/-- A value whose block is below N, and none of C. -/
def Low (N : Nat) (C : Nat → Prop) (v : Value) : Prop := ∀ b, v.ownBlock = some b → b < N ∧ ¬ C b
/-- What a trie of the law's size has. -/
structure TrieS (bs : List Br) (ls : List Int) : Prop where
  ok : TrieOk bs ls
  few : bs.length ≤ 1048576

/-- The rows of a cursor. -/
def RowsAre (w : World) (N : Nat) (C : Nat → Prop) (bs : List Br) (ls : List Int) (kv : Value) (rs : List (Value × Int)) : List Nat → Prop
  | [] => rs = []
  | [i] => rs = [(kv, (i : Int))] ∧ i ≤ bs.length
  | [i, j] => i < bs.length ∧ ∃ v2, rs = [(kv, (i : Int)), (v2, (j : Int))] ∧ SlI .u64 w v2 (leavesOf ls (bs.getD i Br.no)) ∧ Low N C v2 ∧ j ≤ (leavesOf ls (bs.getD i Br.no)).length
  | _ => False
/-- A cursor over a trie: where it stands, and its steps. -/
def CuM (w : World) (C : Nat → Prop) (c N : Nat) (rv : Value) (bs : List Br) (ls : List Int) (ats : List Nat) (st : Int) : Prop :=
  ∃ kv bv lv rs, CuS w c N rv st kv bv lv rs ∧ C c ∧ SlI .u64 w kv (keysOf bs) ∧ SlB w bv bs ∧ SlI .u64 w lv ls ∧ Low N C kv ∧ Low N C bv ∧ Low N C lv ∧ RowsAre w N C bs ls kv rs ats

theorem slc_agree {w w' : World} {v : Value} {cs : List Value} (h : SlC w v cs) (hs : w.heap.size ≤ w'.heap.size) (ha : ∀ b, v.ownBlock = some b → w'.heap[b]? = w.heap[b]?) : SlC w' v cs := by
  obtain ⟨a, c, rfl, h1, h2, h3, h4⟩ := h
  refine ⟨a, c, rfl, h1, h2, h3, fun hne => ?_⟩
  obtain ⟨b, o, rfl, hlt, hc⟩ := h4 hne
  exact ⟨b, o, rfl, by omega, fun i u hi => by rw [World.cell?_of_block (w := w) (ha b rfl)]; exact hc i u hi⟩
theorem sls_agree {w w' : World} {v : Value} {n size : Nat} {cs : List Value} (h : SlS size w v n cs) (hs : w.heap.size ≤ w'.heap.size) (ha : ∀ b, v.ownBlock = some b → w'.heap[b]? = w.heap[b]?) : SlS size w' v n cs := by
  obtain ⟨h0, a, c, rfl, h1, h2, h3, h4⟩ := h
  refine ⟨h0, a, c, rfl, h1, h2, h3, fun hne => ?_⟩
  obtain ⟨b, o, rfl, hlt, hc⟩ := h4 hne
  exact ⟨b, o, rfl, by omega, fun i u hi => by rw [World.cell?_of_block (w := w) (ha b rfl)]; exact hc i u hi⟩
/-- Two worlds have the same blocks below N but those of C. -/
def Agree (N : Nat) (C : Nat → Prop) (w w' : World) : Prop := w.heap.size ≤ w'.heap.size ∧ ∀ b, b < N → ¬ C b → w'.heap[b]? = w.heap[b]?
theorem SlI.agree {w w' : World} {N : Nat} {C : Nat → Prop} {v : Value} {xs : List Int} (h : SlI .u64 w v xs) (hl : Low N C v) (ha : Agree N C w w') : SlI .u64 w' v xs := ⟨slc_agree h.1 ha.1 (fun b hb => ha.2 b (hl b hb).1 (hl b hb).2), h.2⟩
theorem SlB.agree {w w' : World} {N : Nat} {C : Nat → Prop} {v : Value} {bs : List Br} (h : SlB w v bs) (hl : Low N C v) (ha : Agree N C w w') : SlB w' v bs := ⟨sls_agree h.1 ha.1 (fun b hb => ha.2 b (hl b hb).1 (hl b hb).2), h.2⟩
theorem RowsAre.agree {w w' : World} {N : Nat} {C : Nat → Prop} {bs : List Br} {ls : List Int} {kv : Value} {rs : List (Value × Int)} {ats : List Nat} (h : RowsAre w N C bs ls kv rs ats) (ha : Agree N C w w') : RowsAre w' N C bs ls kv rs ats := by
  unfold RowsAre at *
  split at h
  · exact h
  · exact h
  · obtain ⟨h1, v2, h2, h3, h4, h5⟩ := h
    exact ⟨h1, v2, h2, h3.agree h4 ha, h4, h5⟩
  · exact h
theorem Turn.agree {w w' : World} {c N : Nat} {rv rv' : Value} {C : Nat → Prop} (h : Turn w w' c rv rv') (hN : N ≤ w.heap.size) (hc : C c) (hr : ∀ b, rv.ownBlock = some b → N ≤ b) : Agree N C w w' :=
  ⟨h.size, fun b hb hC => h.block b (by omega) (fun e => hC (e ▸ hc)) (fun e => by have := hr b e.symm; omega)⟩
theorem CuM.rows {w : World} {C : Nat → Prop} {c N : Nat} {rv : Value} {bs : List Br} {ls : List Int} {ats : List Nat} {st : Int} (h : CuM w C c N rv bs ls ats st) : C c ∧ c < N ∧ N ≤ w.heap.size ∧ ∀ b, rv.ownBlock = some b → N ≤ b ∧ b < w.heap.size := by
  obtain ⟨kv, bv, lv, rs, hS, hC, _⟩ := h
  exact ⟨hC, hS.low, hS.size, hS.own.lt⟩
/-- It stands where it stood while its blocks are as they were. -/
theorem CuM.agree {w w' : World} {C : Nat → Prop} {c N : Nat} {rv : Value} {bs : List Br} {ls : List Int} {ats : List Nat} {st : Int} (h : CuM w C c N rv bs ls ats st) (ha : Agree N C w w') (hb : w'.heap[c]? = w.heap[c]?) (hr : ∀ b, rv.ownBlock = some b → w'.heap[b]? = w.heap[b]?) : CuM w' C c N rv bs ls ats st := by
  obtain ⟨kv, bv, lv, rs, hS, hC, h1, h2, h3, h4, h5, h6, h7⟩ := h
  refine ⟨kv, bv, lv, rs, ⟨hb.trans hS.box, hS.low, Nat.le_trans hS.size ha.1, ?_⟩, hC, h1.agree h4 ha, h2.agree h5 ha, h3.agree h6 ha, h4, h5, h6, h7.agree ha⟩
  obtain ⟨o1, o2⟩ := hS.own
  refine ⟨o1, ?_⟩
  rcases o2 with o2 | ⟨g, cap, cur, hv, hg, hh, r⟩
  · exact .inl o2
  · exact .inr ⟨g, cap, cur, hv, hg, by rw [hr g (by rw [hv]; rfl)]; exact hh, r⟩
theorem CuM.later {w w' : World} {C : Nat → Prop} {c N : Nat} {rv : Value} {bs : List Br} {ls : List Int} {ats : List Nat} {st : Int} (h : CuM w C c N rv bs ls ats st) (hb : Below w.heap.size w w') : CuM w' C c N rv bs ls ats st := by
  obtain ⟨hC, h1, h2, h3⟩ := h.rows
  exact h.agree ⟨hb.size, fun b hb' _ => hb.block b (by omega)⟩ (hb.block c (by omega)) (fun b hb' => hb.block b (h3 b hb').2)
end Go.Proofs.Ytdfnfdgkhflonaa
