/-
  What the laws of leap speak of, plainly; Meet and Some said once for right and for wrong rows.
-/
import Derived.Test.YtenhpfhadbafbaaLeMine
namespace Go.Proofs.Ytenhpfhadbafbaa
open Go.RowKit
set_option linter.unusedVariables false

def meetOf (ls : List (List Int)) : List Int := if okB ls = true then commonAll ls else []
def errOf (ls : List (List Int)) : Int := if okB ls = true then 0 else 330
theorem errOf_yes {ls : List (List Int)} (h : okB ls = true) : errOf ls = 0 := if_pos h
theorem errOf_no {ls : List (List Int)} (h : okB ls = false) : errOf ls = 330 := if_neg (by rw [h]; decide)
theorem meetOf_yes {ls : List (List Int)} (h : okB ls = true) : meetOf ls = commonAll ls := if_pos h
theorem meetOf_no {ls : List (List Int)} (h : okB ls = false) : meetOf ls = [] := if_neg (by rw [h]; decide)
theorem okB_perm {ls ls' : List (List Int)} (h : ls'.Perm ls) : okB ls' = okB ls := by
  rw [Bool.eq_iff_iff, okB_iff, okB_iff, h.length_eq]
  constructor
  · rintro ⟨a, b, c⟩
    exact ⟨a, b, fun r hr => perm_row (p := fun l => risesB l = true) h.symm (by rw [h.length_eq]; exact c) r hr⟩
  · rintro ⟨a, b, c⟩
    exact ⟨a, b, fun r hr => perm_row (p := fun l => risesB l = true) h c r (by rw [h.length_eq]; exact hr)⟩
theorem commonAll_perm {ls ls' : List (List Int)} (h : ls'.Perm ls) (hR : RowsOk ls) : commonAll ls' = commonAll ls := by
  have h' := perm_ok h hR
  rw [← common_perm h hR 0, ← common_perm (List.Perm.refl ls') h' 0]
theorem meetOf_perm {ls ls' : List (List Int)} (h : ls'.Perm ls) (hS : ∀ r, r < ls.length → (rowN ls r).length ≤ 1000) (hN : ∀ r, r < ls.length → ∀ n ∈ rowN ls r, 0 ≤ n) : meetOf ls' = meetOf ls := by
  by_cases hk : okB ls = true
  · rw [meetOf_yes hk, meetOf_yes ((okB_perm h).trans hk), commonAll_perm h (rowsOk_of hk hS hN)]
  · have hk := Bool.eq_false_iff.2 hk
    rw [meetOf_no hk, meetOf_no ((okB_perm h).trans hk)]
theorem errOf_perm {ls ls' : List (List Int)} (h : ls'.Perm ls) : errOf ls' = errOf ls := by unfold errOf; rw [okB_perm h]
theorem slR_nat {w : World} {v : Value} {ls : List (List Int)} (h : SlR w v ls) : ∀ r, r < ls.length → ∀ n ∈ rowN ls r, 0 ≤ n := fun r hr n hn => by
  obtain ⟨rv, h1, h2⟩ := h
  exact (wf_u64 ((h2 r hr).2 n hn)).1
theorem slR_wf {w : World} {v : Value} {ls : List (List Int)} (h : SlR w v ls) : ∀ r, r < ls.length → ∀ n ∈ rowN ls r, (Lit.int .u64 n).wf = true := fun r hr n hn => by
  obtain ⟨rv, h1, h2⟩ := h
  exact (h2 r hr).2 n hn
theorem meetOf_wf {w : World} {v : Value} {ls : List (List Int)} (h : SlR w v ls) : ∀ n ∈ meetOf ls, (Lit.int .u64 n).wf = true := fun n hn => by
  by_cases hk : okB ls = true
  · rw [meetOf_yes hk] at hn
    have h0 := (okB_iff.1 hk).1
    exact slR_wf h 0 h0 n ((commonAll_mem h0).1 hn 0 h0)
  · rw [meetOf_no (Bool.eq_false_iff.2 hk)] at hn
    cases hn
theorem slR_of {w : World} {v : Value} (ps : List (Value × List Int)) (h : SlC w v (ps.map Prod.fst)) (hr : ∀ p ∈ ps, SlI .u64 w p.1 p.2) : SlR w v (ps.map Prod.snd) := by
  refine ⟨fun r => (ps.getD r (.slice none 0 0, [])).1, ?_, fun r hr' => ?_⟩
  · have e : (List.range (ps.map Prod.snd).length).map (fun r => (ps.getD r (.slice none 0 0, [])).1) = ps.map Prod.fst := by
      refine List.ext_getElem (by simp) fun i h1 h2 => ?_
      simp at h2
      simp [List.getD, List.getElem?_eq_getElem h2]
    rw [e]
    exact h
  · have hr2 : r < ps.length := by simpa using hr'
    have := hr ps[r] (List.getElem_mem hr2)
    have e1 : (ps.getD r (.slice none 0 0, [])).1 = ps[r].1 := by simp [List.getD, List.getElem?_eq_getElem hr2]
    have e2 : rowN (ps.map Prod.snd) r = ps[r].2 := by simp [rowN, List.getD, List.getElem?_eq_getElem hr2]
    show SlI .u64 w (ps.getD r (.slice none 0 0, [])).1 _
    rw [e1, e2]
    exact this
theorem own_short (ls : List (List Int)) : ∀ r, r < (ownOf ls).length → (rowN (ownOf ls) r).length ≤ 40 := fun r hr => by
  rw [(ownOf_row hr).2, List.length_take]
  omega
theorem row_perm_short {ls ls' : List (List Int)} (h : ls'.Perm ls) {B : Nat} (hs : ∀ r, r < ls.length → (rowN ls r).length ≤ B) : ∀ r, r < ls'.length → (rowN ls' r).length ≤ B := perm_row (p := fun l => l.length ≤ B) h hs
theorem row_more {ls : List (List Int)} {l : List Int} {p : List Int → Prop} (h : ∀ r, r < ls.length → p (rowN ls r)) (hl : p l) : ∀ r, r < (ls ++ [l]).length → p (rowN (ls ++ [l]) r) := by
  intro r hr
  by_cases e : r < ls.length
  · have := h r e
    unfold rowN at this ⊢
    rw [List.getD, List.getElem?_append_left e]
    exact this
  · have e2 : r = ls.length := by rw [List.length_append] at hr; simp at hr; omega
    subst e2
    have : rowN (ls ++ [l]) ls.length = l := by simp [rowN, List.getD]
    rw [this]; exact hl
theorem rowN_more {ls : List (List Int)} {l : List Int} {r : Nat} (h : r < ls.length) : rowN (ls ++ [l]) r = rowN ls r := by
  unfold rowN
  rw [List.getD, List.getElem?_append_left h]
  rfl
theorem rowN_last {ls : List (List Int)} {l : List Int} : rowN (ls ++ [l]) ls.length = l := by simp [rowN, List.getD]

/-- Meet, for right and for wrong rows. -/
theorem meetL_any (v : Value) (ls : List (List Int)) (w : World) (h : SlR w v ls) (hS : ∀ r, r < ls.length → (rowN ls r).length ≤ 1000) (hl : ls.length ≤ 19) :
    Calls Try.prog 16 #[v] w fun e w' => ∃ (u : Value) (n : Nat), e = .returned (.tuple #[u, .int .i64 n, .int .i64 (errOf ls)]) ∧ w'.ownsRow w.heap.size 40 1 u (meetOf ls).length ((meetOf ls).map (.int .u64)) ∧ Below w.heap.size w w' ∧ (okB ls = true → n ≤ boundOf ls.length (minTo ls ls.length) (maxTo ls ls.length)) ∧ (okB ls = false → n = 0) := by
  refine (Meet_any v ls w h hS (slR_nat h) hl).mono ?_
  rintro e w' ⟨hb, (⟨hk, rfl⟩ | ⟨hk, u, n, rfl, ho, hn⟩)⟩
  · refine ⟨.slice none 0 0, 0, by rw [errOf_no hk]; rfl, by rw [meetOf_no hk]; exact World.ownsRow_nil _ _ _ _, hb, fun e => (by rw [hk] at e; cases e), fun _ => rfl⟩
  · refine ⟨u, n, by rw [errOf_yes hk], by rw [meetOf_yes hk]; exact ho, hb, fun _ => hn, fun e => (by rw [hk] at e; cases e)⟩
end Go.Proofs.Ytenhpfhadbafbaa
