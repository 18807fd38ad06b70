/-
  The law's own wakes: the layer does something.
-/
import Derived.Test.YtlndgjibefbddaaRows
import Derived.WalkKit
import Derived.WalkSpells
import Derived.WalkLawsBesides
import Derived.Outline
import Derived.Test.YtlndgjibefbddaaPlain
import Derived.Test.YtlndgjibefbddaaBase
import Derived.Test.YtlndgjibefbddaaLib
import Derived.Test.YtlndgjibefbddaaGal
import Derived.Test.YtlndgjibefbddaaGal2
import Derived.Test.YtlndgjibefbddaaMeet
namespace Go.Proofs.Ytlndgjibefbddaa
open Go.RowKit
set_option linter.unusedVariables false

theorem sli_lit (k : IntKind) (w : World) (t : TypeId) (xs : List Int) (n : Nat) (hn : n = xs.length) (hm : n ≤ maxLen) (hw : ∀ x ∈ xs, (Lit.int k x).wf = true) :
    SlI k (w.alloc (.cells (xs.map (Value.int k)).toArray t)) (.slice (some ⟨w.heap.size, 0, none⟩) n n) xs := by
  subst hn
  have h := World.ownsRow_lit (base := w.heap.size) (e := t) (size := 1) w (xs.map (Value.int k)).toArray xs.length (Nat.le_refl _) hm (by simp)
  exact SlI.of_owns (n := xs.length) (by simpa using h) hw

theorem sli_shape {k : IntKind} {w : World} {v : Value} {xs : List Int} (h : SlI k w v xs) : ∃ a n c, v = .slice a n c ∧ Hid (n = xs.length) := by
  obtain ⟨a, c, rfl, _⟩ := h.open
  exact ⟨a, _, c, rfl, Lib.hid rfl⟩

set_option maxHeartbeats 1000000 in
theorem wakes_any (w : World) : Calls Try.prog 10 #[] w fun e w' => e = .returned (.bool true) ∧ Below w.heap.size w w' := by
  have s1 := sli_lit .u64 w 34 [3, 5, 8, 9, 12] 5 rfl (by simp [maxLen]) (by decide)
  have s2 := fun W => sli_lit .u64 W 34 [5, 3] 2 rfl (by simp [maxLen]) (by decide)
  have s3 := fun W => sli_lit .u64 W 34 [2, 5, 9] 3 rfl (by simp [maxLen]) (by decide)
  have s4 := fun W => sli_lit .u64 W 34 [5, 9] 2 rfl (by simp [maxLen]) (by decide)
  simp only [List.map_cons, List.map_nil] at s1 s2 s3 s4
  have hb0 := later_alloc w (.cells #[.int .u64 3, .int .u64 5, .int .u64 8, .int .u64 9, .int .u64 12] 34)
  have HS1 := Lib.hid s1
  have HS2 := Lib.hid s2
  have HS3 := Lib.hid s3
  have HS4 := Lib.hid s4
  clear s1 s2 s3 s4
  go_enter Try.func10, Try.ntmps10
  go_wp2_with fail
  refine (Seek_any _ _ _ _ _ HS1.out (by simp)).mono ?_
  rintro e w1 ⟨he, hb1⟩
  rw [if_pos (by decide)] at he
  obtain ⟨looks, rfl, hf⟩ := he
  have hlk : 1 ≤ looks := (hf.2 (by decide)).1
  have hp : place [3, 5, 8, 9, 12] (Int.toNat 0) (geB 8) = 2 := by decide
  rw [hp]
  clear hf hp
  have hlk' : (0 : Int) < looks := by omega
  have hs1 := HS1.out.later hb1
  have hb01 := later_trans hb0 hb1
  go_wp2_with fail
  refine (Behind_any _ _ _ _ _ hs1 (by simp)).mono ?_
  rintro e w2 ⟨he, hb2⟩
  rw [if_pos (by decide)] at he
  obtain ⟨looks2, rfl, _⟩ := he
  have hp : place [3, 5, 8, 9, 12] (Int.toNat 0) (gtB 8) = 3 := by decide
  rw [hp]
  have hb02 := later_trans hb01 hb2
  have hs1 := hs1.later hb2
  clear hp
  go_wp2_with fail
  refine (Seek_any _ _ _ _ _ (HS2.out w2) (by simp)).mono ?_
  rintro e w3 ⟨he, hb3⟩
  rw [if_neg (by decide)] at he
  subst he
  have hb3 := later_trans (later_alloc w2 _) hb3
  have hb03 := later_trans hb02 hb3
  have hs1 := hs1.later hb3
  go_wp2_with fail
  refine (meet_any _ _ _ _ _ (hs1.alloc _) (HS3.out w3) (by simp) (by simp)).mono ?_
  rintro e w4 ⟨v4, all, rfl, hown, _, hb4⟩
  have hb4 := later_trans (later_alloc w3 _) hb4
  have hb04 := later_trans hb03 hb4
  have hs1 := hs1.later hb4
  have hm : (if risesB [3, 5, 8, 9, 12] && risesB [2, 5, 9] then meetL [3, 5, 8, 9, 12] [2, 5, 9] else []) = [5, 9] := by decide
  rw [hm] at hown
  have hs5 : SlI .u64 w4 v4 [5, 9] := SlI.of_owns hown (by decide)
  clear hm hown
  obtain ⟨a4, m4, c4, rfl, _⟩ := sli_shape hs5
  go_wp2_with fail
  refine (equal_any _ _ _ _ _ (hs5.alloc _) (HS4.out w4)).mono ?_
  rintro e w5 ⟨rfl, n5, hw5⟩
  have hb5 : Below w4.heap.size w4 w5 := by rw [hw5]; exact later_trans (later_alloc w4 _) (later_drewN _ n5)
  clear hw5
  have hb05 := later_trans hb04 hb5
  have hs1 := hs1.later hb5
  rw [show decide ([(5 : Int), 9] = [5, 9]) = true from by decide]
  go_wp2_with fail
  refine (log_any 9 (by omega) (by omega) _).mono ?_
  rintro e w6 ⟨rfl, rfl⟩
  rw [show lg 9 = 3 from by decide]
  go_wp2_with fail
  refine (has_any _ _ _ _ hs1 (by simp)).mono ?_
  rintro e w6 ⟨rfl, hb6⟩
  rw [show hasOf [3, 5, 8, 9, 12] 12 = true from by decide]
  go_wp2_with fail
  go_ret
  exact ⟨rfl, later_trans hb05 hb6⟩
end Go.Proofs.Ytlndgjibefbddaa
