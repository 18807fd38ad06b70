/-
  Maps of whatever elements: a map in memory as a function of its keys. No program in sight.
-/
import Derived.Maps.OwnIn
import Derived.Maps.OwnSet
import Derived.StringKeys
import Derived.WalkKit
namespace Go.Proofs.YtplidcbfbonjlaaDoor
open Go.RowKit Go.Maps
set_option linter.unusedVariables false

/-- An element, told as it is. -/
def rawE (v : Value) : Option (DataW Value × List MemPlace) := some (.held v, [])
/-- Block b is a map of at most n entries: at each key it has what f says. -/
def MpV (P : Program) (k : TypeId) (w : World) (b n : Nat) (f : Lit → Option Value) : Prop :=
  ∃ D : DataW Value, w.ownsMap P k rawE b n D ∧ ∀ kl, KeysOf P k kl → (f kl = none → ∀ z, D.atKey kl z = z) ∧ ∀ v, f kl = some v → ∀ z, D.atKey kl z = .held v
section
variable {P : Program} {k : TypeId} {w w' : World} {b n : Nat} {f : Lit → Option Value}
theorem MpV.made (P : Program) (k : TypeId) (w : World) : MpV P k (w.alloc (.map #[] 0)) w.heap.size 0 (fun _ => none) :=
  ⟨.map [], World.ownsMap_made _ _ _ _, fun kl _ => ⟨fun _ z => rfl, fun v h => by cases h⟩⟩
theorem MpV.lt (h : MpV P k w b n f) : b < w.heap.size := by obtain ⟨D, h1, -⟩ := h; exact h1.lt
theorem MpV.mono {n' : Nat} (h : MpV P k w b n f) (hn : n ≤ n') : MpV P k w b n' f := by obtain ⟨D, h1, h2⟩ := h; exact ⟨D, h1.mono hn, h2⟩
theorem MpV.block (h : MpV P k w b n f) (hb : w'.heap[b]? = w.heap[b]?) : MpV P k w' b n f := by
  obtain ⟨D, ⟨es, clock, hh, r⟩, h2⟩ := h
  exact ⟨D, ⟨es, clock, hb.trans hh, r⟩, h2⟩
theorem MpV.later (h : MpV P k w b n f) (hb : Below w.heap.size w w') : MpV P k w' b n f := h.block (hb.block _ h.lt)
theorem MpV.isMap (h : MpV P k w b n f) : ∃ es c, w.heap[b]? = some (.map es c) := by
  obtain ⟨D, ⟨es, clock, hh, r⟩, h2⟩ := h
  exact ⟨es, clock, hh⟩
/-- 'm[k]'. -/
theorem MpV.look {t e : TypeId} (h : MpV P k w b n f) (K : Keyed P k) (ht : P.underlying t = some (.map k e)) {z : Value} (hz : (zeroValue e).run P w = .ok z w) {key : Value} {kl : Lit} (hkey : keyOf P k key = some kl) :
    (Instr.lookup t (.map (some b)) key false).run P w = .ok ((f kl).getD z) w := by
  obtain ⟨D, h1, h2⟩ := h
  obtain ⟨v, ps, hrun, hv⟩ := h1.lookup K ht hz (zd := .held z) (zp := []) rfl hkey
  rw [hrun]
  have e1 : DataW.held v = D.atKey kl (.held z) := by simpa [rawE] using congrArg (Option.map Prod.fst) hv
  obtain ⟨g1, g2⟩ := h2 kl ⟨_, hkey⟩
  cases hf : f kl with
  | none => rw [g1 hf] at e1; cases e1; rfl
  | some u => rw [g2 u hf] at e1; cases e1; rfl
/-- 'v, ok := m[k]'. -/
theorem MpV.look_ok {t e : TypeId} (h : MpV P k w b n f) (K : Keyed P k) (ht : P.underlying t = some (.map k e)) {z : Value} (hz : (zeroValue e).run P w = .ok z w) {key : Value} {kl : Lit} (hkey : keyOf P k key = some kl) :
    (Instr.lookup t (.map (some b)) key true).run P w = .ok (.tuple #[(f kl).getD z, .bool (f kl).isSome]) w := by
  obtain ⟨D, h1, h2⟩ := h
  obtain ⟨v, ps, hrun, hv⟩ := h1.look_ok K ht hz (zd := .held z) (zp := []) rfl hkey
  rw [hrun]
  have e1 : DataW.held v = D.atKey kl (.held z) := by simpa [rawE] using congrArg (Option.map Prod.fst) hv
  obtain ⟨g1, g2⟩ := h2 kl ⟨_, hkey⟩
  cases hf : f kl with
  | none => rw [Maps.has_false_of_atKey (g1 hf)]; rw [g1 hf] at e1; cases e1; rfl
  | some u => rw [Maps.has_true_of_atKey (g2 u hf)]; rw [g2 u hf] at e1; cases e1; rfl
open Classical in
/-- f, with one key turned. -/
noncomputable def turnK (f : Lit → Option Value) (kl : Lit) (o : Option Value) : Lit → Option Value := fun l => if l = kl then o else f l
theorem turnK_same (f : Lit → Option Value) (kl : Lit) (o : Option Value) : turnK f kl o kl = o := by unfold turnK; rw [if_pos rfl]
theorem turnK_other {f : Lit → Option Value} {kl l : Lit} {o : Option Value} (h : l ≠ kl) : turnK f kl o l = f l := by unfold turnK; rw [if_neg h]
/-- Behind 'm[k] = v'. -/
theorem MpV.put {D : DataW Value} (h1 : w.ownsMap P k rawE b n D) (h2 : ∀ kl, KeysOf P k kl → (f kl = none → ∀ z, D.atKey kl z = z) ∧ ∀ v, f kl = some v → ∀ z, D.atKey kl z = .held v)
    (K : Keyed P k) {key val : Value} {kl : Lit} (hkey : keyOf P k key = some kl) {n' : Nat} (h : w'.ownsMap P k rawE b n' (D.put kl (.held val))) : MpV P k w' b n' (turnK f kl (some val)) := by
  refine ⟨_, h, fun l hl => ?_⟩
  by_cases e : l = kl
  · subst e
    rw [turnK_same]
    exact ⟨fun h => by (cases h), fun v hv z => by
      cases hv
      exact atKey_put_same h1.isMap (K.key hkey) _ z⟩
  · rw [turnK_other e]
    obtain ⟨g1, g2⟩ := h2 l hl
    exact ⟨fun h z => by rw [atKey_put_other e]; exact g1 h z, fun v hv z => by rw [atKey_put_other e]; exact g2 v hv z⟩
/-- Behind 'delete(m, k)'. -/
theorem MpV.drop {D : DataW Value} (h2 : ∀ kl, KeysOf P k kl → (f kl = none → ∀ z, D.atKey kl z = z) ∧ ∀ v, f kl = some v → ∀ z, D.atKey kl z = .held v)
    {kl : Lit} {n' : Nat} (h : w'.ownsMap P k rawE b n' (D.del kl)) : MpV P k w' b n' (turnK f kl none) := by
  refine ⟨_, h, fun l hl => ?_⟩
  by_cases e : l = kl
  · subst e
    rw [turnK_same]
    exact ⟨fun _ z => atKey_del_same z, fun v hv => by cases hv⟩
  · rw [turnK_other e]
    obtain ⟨g1, g2⟩ := h2 l hl
    exact ⟨fun h z => by rw [atKey_del_other e]; exact g1 h z, fun v hv z => by rw [atKey_del_other e]; exact g2 v hv z⟩
end
end Go.Proofs.YtplidcbfbonjlaaDoor
