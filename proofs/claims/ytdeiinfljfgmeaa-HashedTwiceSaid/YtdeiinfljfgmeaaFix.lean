/-
  A region that draws its order and changes nothing that is read: of each operation that is listed it is told what its slot holds. No walk, no program.
-/
import Derived.Test.YtdeiinfljfgmeaaInv2
import Derived.Test.YtdeiinfljfgmeaaLeOwn
namespace Go.Proofs.Ytdeiinfljfgmeaa
open Go Go.RowKit
set_option linter.unusedVariables false

/-- What stands of each operation that is listed. -/
structure Fx (n : Nat) (a0 : Act) (ds : List Nat) (wb : World) (sl : Nat → Nat) (R : Nat → Value → World → Prop) (L : Array Bool) (a : Act) (w : World) : Prop where
  ag : Inv.Ag a0 ds a
  val : ∀ j, j < n → L.getD j false = true → R j (a.eval (.tmp (sl j))) w
  bel : Below wb.heap.size wb w
theorem Fx.start {n : Nat} {a0 : Act} {ds : List Nat} {wb : World} {sl : Nat → Nat} {R : Nat → Value → World → Prop} (m : Nat) : Fx n a0 ds wb sl R (Array.replicate m false) a0 wb.drew :=
  ⟨Inv.Ag.refl _ _, fun j _ h => by
    rw [Array.getD_eq_getD_getElem?, Array.getElem?_replicate] at h
    split at h <;> simp at h, (Below.refl _ wb).drew⟩
theorem Fx.step {n : Nat} {a0 : Act} {ds : List Nat} {wb : World} {sl : Nat → Nat} {R : Nat → Value → World → Prop} {L : Array Bool} {a : Act} {w w' : World} {i d : Nat} {v : Value} (h : Fx n a0 ds wb sl R L a w) (hinj : ∀ j, j < n → j ≠ i → sl j ≠ sl i) (hmono : ∀ j v A B, R j v A → Below A.heap.size A B → R j v B)
    (h0 : L.getD i true = false) (hd : d ∈ ds) (hs : d < a.tmps.size) (hi : sl i = d) (hb : Below w.heap.size w w') (hv : R i v w') : Fx n a0 ds wb sl R (L.setIfInBounds i true) (a.put (some d) v) w' := by
  refine ⟨h.ag.put hd v, fun j hj hL => ?_, later_trans h.bel hb⟩
  rw [Inv.listed_set h0] at hL
  by_cases e : i = j
  · subst e
    rw [hi, Inv.eval_put_same hs]
    exact hv
  · rw [Inv.eval_put_ne (fun q => hinj j hj (fun e' => e e'.symm) (by rw [hi, ← q]))]
    exact hmono j _ _ _ (h.val j hj (by simpa [e] using hL)) hb
/-- A run of slots, the last one told: the frame written out. -/
theorem Inv.Ag.run {a0 a : Act} {ds : List Nat} (h : Inv.Ag a0 ds a) (s n : Nat) (hn : s + n + 1 ≤ a0.tmps.size) (hds : ∀ k, k ∈ ds → s ≤ k ∧ k ≤ s + n) :
    ∃ f : Nat → Value, a = ⟨(a0.tmps.toList.take s ++ ((List.range n).map f ++ a.tmps.getD (s + n) undef :: a0.tmps.toList.drop (s + n + 1))).toArray, a0.defers⟩ := by
  refine ⟨fun j => a.tmps.getD (s + j) undef, ?_⟩
  have hsz := h.size
  have hl0 : a0.tmps.toList.length = a0.tmps.size := by simp
  have hlt : (a0.tmps.toList.take s).length = s := by rw [List.length_take, hl0]; omega
  have hlm : ((List.range n).map fun j => a.tmps.getD (s + j) undef).length = n := by simp
  have e1 : a.tmps = (a0.tmps.toList.take s ++ ((List.range n).map (fun j => a.tmps.getD (s + j) undef) ++ a.tmps.getD (s + n) undef :: a0.tmps.toList.drop (s + n + 1))).toArray := by
    refine Array.ext_getElem? fun k => ?_
    have hoff : k ∉ ds → a.tmps[k]? = a0.tmps.toList[k]? := fun hk => by rw [h.off k hk]; simp
    refine Eq.trans ?_ ((show ∀ L : List Value, (L.toArray)[k]? = L[k]? from fun L => by simp) _).symm
    rcases Nat.lt_or_ge k s with h1 | h1
    · rw [List.getElem?_append_left (by omega), List.getElem?_take_of_lt h1]
      exact hoff (fun hk => by have := hds k hk; omega)
    · rw [List.getElem?_append_right (by omega), hlt]
      rcases Nat.lt_or_ge k (s + n) with h2 | h2
      · have h5 : k < a.tmps.size := by omega
        rw [List.getElem?_append_left (by omega), List.getElem?_map, List.getElem?_range (by omega)]
        have h6 : s + (k - s) = k := by omega
        simp only [Option.map_some, h6]
        simp [h5]
      · rw [List.getElem?_append_right (by omega), hlm]
        by_cases h3 : k = s + n
        · subst h3
          have h5 : s + n < a.tmps.size := by omega
          rw [show s + n - s - n = 0 from by omega, List.getElem?_cons_zero]
          simp [h5]
        · obtain ⟨j, hj⟩ : ∃ j, k - s - n = j + 1 := ⟨k - s - n - 1, by omega⟩
          rw [hj, List.getElem?_cons_succ, List.getElem?_drop, show s + n + 1 + j = k from by omega]
          exact hoff (fun hk => by have := hds k hk; omega)
  obtain ⟨t, df⟩ := a
  obtain rfl := h.defers
  exact congrArg (fun t => Act.mk t _) e1
theorem at_slot {a : Act} {s : Nat} {v : Value} (h : a.eval (.tmp s) = v) : a.tmps[s]?.getD undef = v := by simpa [Act.eval] using h
theorem at_some {a : Act} {s : Nat} {v : Value} (h : a.eval (.tmp s) = v) (hs : s < a.tmps.size) : a.tmps[s]? = some v := by
  have h2 := at_slot h
  rw [Array.getElem?_eq_getElem hs] at h2 ⊢
  simpa using h2
end Go.Proofs.Ytdeiinfljfgmeaa
