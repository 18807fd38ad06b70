/-
  The laws' own few and own, walked.
-/
import Derived.Test.YtdfnfdgkhflonaaRows
import Derived.WalkKit
import Derived.WalkSpells
import Derived.WalkLawsBesides
import Derived.Outline
import Derived.Deep.RegionHeld3
import Derived.Test.YtdfnfdgkhflonaaBase
import Derived.Test.YtdfnfdgkhflonaaBase2
import Derived.Test.YtdfnfdgkhflonaaLib
import Derived.Test.YtdfnfdgkhflonaaTLib
namespace Go.Proofs.Ytdfnfdgkhflonaa
open Go.RowKit
set_option linter.unusedVariables false

/-- What lies there, if anything. -/
def got (w : World) (b o : Nat) : Value := (w.cell? ⟨b, o, none⟩).getD undef
theorem got_of {w : World} {b o : Nat} {v : Value} (h : w.cell? ⟨b, o, none⟩ = some v) : w.cell? ⟨b, o, none⟩ = some (got w b o) := by unfold got; rw [h]; rfl
/-- A struct of two in a box, and the result's two cells behind it. -/
abbrev Box2 (n : Nat) (u v : Value) (W : World) : Prop :=
  W.cell? ⟨n, 0, none⟩ = some u ∧ W.cell? ⟨n, 1, none⟩ = some v ∧ W.cell? ⟨n + 1, 0, none⟩ = some (got W (n + 1) 0) ∧ W.cell? ⟨n + 1, 1, none⟩ = some (got W (n + 1) 1) ∧ W.frozen? ⟨n + 1, 0, none⟩ = false ∧ W.frozen? ⟨n + 1, 1, none⟩ = false
theorem box2_next {W W' : World} {n : Nat} {u v : Value} (hb : Below W.heap.size W W') (h : Box2 n u v W) : Box2 n u v W' := by
  obtain ⟨h1, h2, h3, h4, h5, h6⟩ := h
  have hlt := World.block_lt_of_cell? _ _ h3
  have hlt' : n + 1 < W.heap.size := hlt
  refine ⟨?_, ?_, ?_, ?_, ?_, ?_⟩
  · rw [hb.cell (by show n < _; omega)]; exact h1
  · rw [hb.cell (by show n < _; omega)]; exact h2
  · exact got_of ((hb.cell (p := ⟨n + 1, 0, none⟩) hlt').trans h3)
  · exact got_of ((hb.cell (p := ⟨n + 1, 1, none⟩) hlt').trans h4)
  · rw [hb.frozen (by show n + 1 < _; omega)]; exact h5
  · rw [hb.frozen (by show n + 1 < _; omega)]; exact h6
theorem box2_new (w : World) (u v x y : Value) (t t' : TypeId) : Box2 w.heap.size u v ((w.alloc (.cells #[u, v] t)).alloc (.cells #[x, y] t')).drew := by
  have h3 : ((w.alloc (.cells #[u, v] t)).alloc (.cells #[x, y] t')).cell? ⟨w.heap.size + 1, 0, none⟩ = some x := by simp
  have h4 : ((w.alloc (.cells #[u, v] t)).alloc (.cells #[x, y] t')).cell? ⟨w.heap.size + 1, 1, none⟩ = some y := by simp
  exact ⟨by simp, by simp, got_of (v := x) h3, got_of (v := y) h4, by simp, by simp⟩
theorem box2_set {W : World} {n : Nat} {u v x y : Value} (h : Box2 n u v W) : Box2 n u v ((W.setCell ⟨n + 1, 0, none⟩ x).setCell ⟨n + 1, 1, none⟩ y) := by
  obtain ⟨h1, h2, h3, h4, h5, h6⟩ := h
  have g3 := World.cell?_setCell_same W ⟨n + 1, 0, none⟩ x h3
  have g3' := (World.cell?_setCell_other (W.setCell ⟨n + 1, 0, none⟩ x) ⟨n + 1, 1, none⟩ ⟨n + 1, 0, none⟩ y (by simp)).trans g3
  have g4 := (World.cell?_setCell_other W ⟨n + 1, 0, none⟩ ⟨n + 1, 1, none⟩ x (by simp)).trans h4
  have g4' := World.cell?_setCell_same (W.setCell ⟨n + 1, 0, none⟩ x) ⟨n + 1, 1, none⟩ y g4
  refine ⟨?_, ?_, got_of g3', got_of g4', by rw [World.frozen?_setCell, World.frozen?_setCell]; exact h5, by rw [World.frozen?_setCell, World.frozen?_setCell]; exact h6⟩
  · rw [World.cell?_setCell_other _ _ _ _ (by simp), World.cell?_setCell_other _ _ _ _ (by simp)]; exact h1
  · rw [World.cell?_setCell_other _ _ _ _ (by simp), World.cell?_setCell_other _ _ _ _ (by simp)]; exact h2

theorem box2_end {P : Program} {fn : Func} {R : Ending → World → Prop} {act : Act} {W : World} {n : Nat} {u v x y : Value} (hB : Box2 n u v W)
    (hres : ∀ W2 : World, W2.cell? ⟨n + 1, 0, none⟩ = some x → W2.cell? ⟨n + 1, 1, none⟩ = some y → (results fn act.tmps).run P W2 = .ok (.agg #[x, y]) W2) (hd : act.defers = [])
    (hR : R (.returned (.agg #[x, y])) ((W.setCell ⟨n + 1, 0, none⟩ x).setCell ⟨n + 1, 1, none⟩ y)) : bodyPost P fn R .ret act ((W.setCell ⟨n + 1, 0, none⟩ x).setCell ⟨n + 1, 1, none⟩ y) := by
  obtain ⟨h1, h2, h3, h4, h5, h6⟩ := hB
  have g3 := World.cell?_setCell_same W ⟨n + 1, 0, none⟩ x h3
  have g3' := (World.cell?_setCell_other (W.setCell ⟨n + 1, 0, none⟩ x) ⟨n + 1, 1, none⟩ ⟨n + 1, 0, none⟩ y (by simp)).trans g3
  have g4 := (World.cell?_setCell_other W ⟨n + 1, 0, none⟩ ⟨n + 1, 1, none⟩ x (by simp)).trans h4
  have g4' := World.cell?_setCell_same (W.setCell ⟨n + 1, 0, none⟩ x) ⟨n + 1, 1, none⟩ y g4
  exact bodyPost_ret (hres _ g3' g4') hd hR

theorem owns_next {W W' : World} {base : Nat} {e : TypeId} {size : Nat} {v : Value} {n : Nat} {xs : List Value} (h : W.ownsRow base e size v n xs) (hb : Below W.heap.size W W') : W'.ownsRow base e size v n xs := by
  obtain ⟨h0, h⟩ := h
  refine ⟨h0, ?_⟩
  rcases h with h | ⟨g, cap, cur, hv, hg, hh, r⟩
  · exact Or.inl h
  · exact Or.inr ⟨g, cap, cur, hv, hg, by rw [hb.block g (lt_of_block hh)]; exact hh, r⟩

theorem owns_end {W : World} {B0 base n0 : Nat} {e : TypeId} {size : Nat} {v : Value} {n : Nat} {xs : List Value} {x y : Value} (h : W.ownsRow base e size v n xs) (h1 : n0 + 1 < base) (h2 : B0 ≤ base) : ((W.setCell ⟨n0 + 1, 0, none⟩ x).setCell ⟨n0 + 1, 1, none⟩ y).ownsRow B0 e size v n xs := by
  obtain ⟨h0, h'⟩ := ownsRow_setCell_below (ownsRow_setCell_below h (a := ⟨n0 + 1, 0, none⟩) h1 x) (a := ⟨n0 + 1, 1, none⟩) h1 y
  refine ⟨h0, ?_⟩
  rcases h' with h' | ⟨g, cap, cur, hv, hg, r⟩
  · exact Or.inl h'
  · exact Or.inr ⟨g, cap, cur, hv, Nat.le_trans h2 hg, r⟩

set_option maxRecDepth 100000 in
set_option maxHeartbeats 2000000 in
theorem own8_any (vb vl : Value) (B : List Br) (L : List Int) (w : World) (hB : SlB w vb B) (hL : SlI .u64 w vl L) :
    Calls Try.prog 14 #[.agg #[vb, vl]] w fun e w' => ∃ vb' vl', e = .returned (.agg #[vb', vl']) ∧ w'.ownsRow w.heap.size 40 3 vb' (B.take (min B.length 40)).length ((B.take (min B.length 40)).flatMap Br.cells) ∧ w'.ownsRow w.heap.size 38 1 vl' (L.take (min L.length 80)).length ((L.take (min L.length 80)).map (.int .u64)) ∧ Below w.heap.size w w' := by
  obtain ⟨a, c, rfl, h1, h2, h3, h4⟩ := hB.1.open Br.len
  obtain ⟨a', c', rfl, g1, g2, g3, g4⟩ := hL.open
  obtain ⟨mb, hmb⟩ : ∃ m, min B.length 40 = m := ⟨_, rfl⟩
  obtain ⟨ml, hml⟩ : ∃ m, min L.length 80 = m := ⟨_, rfl⟩
  have hmin1 : Value.int .i64 (if (40 : Int) < B.length then (40 : Int) else (B.length : Int)) = .int .i64 (mb : Int) := by rw [show (if (40 : Int) < B.length then (40 : Int) else (B.length : Int)) = (mb : Int) from by split <;> omega]
  have hmin2 : Value.int .i64 (if (80 : Int) < L.length then (80 : Int) else (L.length : Int)) = .int .i64 (ml : Int) := by rw [show (if (80 : Int) < L.length then (80 : Int) else (L.length : Int)) = (ml : Int) from by split <;> omega]
  have hmb1 : mb ≤ c := by omega
  have hml1 : ml ≤ c' := by omega
  have hc1 : ∀ W, Below w.heap.size w W → Calls Try.prog 58 #[.slice a mb c] W fun e w' => ∃ a1 n1 c1, e = .returned (.slice a1 n1 c1) ∧ w'.ownsRow W.heap.size 40 3 (.slice a1 n1 c1) (B.take mb).length ((B.take mb).flatMap Br.cells) ∧ Below W.heap.size W w' := fun W hW =>
    (clone_branch _ _ W ((hB.cut (show mb ≤ B.length by omega)).later hW) (by simp; omega)).mono (by
      rintro e w' ⟨v', rfl, ho, hb⟩
      obtain ⟨a1, c1, rfl, _⟩ := (SlS.of_owns ho).2
      exact ⟨_, _, _, rfl, ho, hb⟩)
  have hc2 : ∀ W, Below w.heap.size w W → Calls Try.prog 59 #[.slice a' ml c'] W fun e w' => ∃ a1 n1 c1, e = .returned (.slice a1 n1 c1) ∧ w'.ownsRow W.heap.size 38 1 (.slice a1 n1 c1) (L.take ml).length ((L.take ml).map (.int .u64)) ∧ Below W.heap.size W w' := fun W hW =>
    (clone_any _ _ W ((SlI.cut2 (k := .u64) hL (show ml ≤ L.length by omega)).later hW) (by simp; omega)).mono (by
      rintro e w' ⟨v', rfl, ho, hb⟩
      obtain ⟨a1, c1, rfl, _⟩ := (SlS.of_owns ho).2
      exact ⟨_, _, _, rfl, ho, hb⟩)
  have HC1 := Lib.hid hc1
  have HC2 := Lib.hid hc2
  rw [hmb, hml]
  clear hB hL h1 h2 h3 h4 g1 g2 g3 g4 hmb hml hc1 hc2
  go_enter Try.func14, Try.ntmps14
  go_wp2_with fail
  go_region_held3 (fun W' => W'.cell? ⟨w.heap.size, 0, none⟩ = some (.slice a B.length c) ∧ W'.cell? ⟨w.heap.size, 1, none⟩ = some (.slice a' L.length c') ∧ W'.cell? ⟨w.heap.size + 1, 0, none⟩ = some (got W' (w.heap.size + 1) 0) ∧ W'.cell? ⟨w.heap.size + 1, 1, none⟩ = some (got W' (w.heap.size + 1) 1) ∧ W'.frozen? ⟨w.heap.size + 1, 0, none⟩ = false ∧ W'.frozen? ⟨w.heap.size + 1, 1, none⟩ = false)
    (first | exact box2_new w _ _ _ _ _ _ | exact box2_next hbB (by assumption) | exact box2_next hbL (by assumption) | exact box2_set (by assumption) | assumption | (go_keep; done))
    (first
      | (go_at_call 58; (try simp only [hmin1]); refine (HC1.out _ ?_).mono ?_; (first | exact ((((Below.refl _ w).alloc (Nat.le_refl _) _).alloc (by simp) _).drew) | exact (((((Below.refl _ w).alloc (Nat.le_refl _) _).alloc (by simp) _).drew)).trans (hbL.mono (by simp; omega))); rintro e wB ⟨ab, nb, cb, rfl, hownB, hbB⟩)
      | (go_at_call 59; (try simp only [hmin2]); refine (HC2.out _ ?_).mono ?_; (first | exact ((((Below.refl _ w).alloc (Nat.le_refl _) _).alloc (by simp) _).drew) | exact (((((Below.refl _ w).alloc (Nat.le_refl _) _).alloc (by simp) _).drew)).trans (hbB.mono (by simp; omega))); rintro e wL ⟨al, nl, cl, rfl, hownL, hbL⟩))
  all_goals go_wp2
  all_goals (
    have hB0 := box2_new w (.slice a B.length c) (.slice a' L.length c') (.slice none 0 0) (.slice none 0 0) 25 25
    have hL0 := ((((Below.refl _ w).alloc (Nat.le_refl _) (.cells #[.slice a B.length c, .slice a' L.length c'] 25)).alloc (by simp) (.cells #[.slice none 0 0, .slice none 0 0] 25)).drew)
    first
    | (refine box2_end (box2_next hbL (box2_next hbB hB0)) (fun W2 h0 h1 => by simp [results, Try.results14, go_sem, h0, h1]) rfl ?_
       have hs := hbB.size
       simp at hs
       refine ⟨_, _, rfl, ?_, ?_, ((hL0.trans (hbB.mono (by simp; omega))).trans (hbL.mono (by omega))).setCell (by simp) _ |>.setCell (by simp) _⟩
       · exact owns_end (owns_next hownB hbL) (by simp) (by simp; omega)
       · exact owns_end hownL (by omega) (by omega)))
end Go.Proofs.Ytdfnfdgkhflonaa
