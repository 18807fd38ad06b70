/-
  The document's answer for the cursor (colanderref08), walked: Why. (Printed by mkcur4.py.)
-/
import Derived.Test.YtdfnfdgkhflonaaCuR3
namespace Go.Proofs.Ytdfnfdgkhflonaa
open Go.RowKit
set_option linter.unusedVariables false

/-- Why a move can't be made, as the document says it. -/
def why8 (d : Nat) (en : Bool) (kind : Int) : Int := if kind < 1 ∨ 4 < kind then 180 else if kind = 1 ∧ d = 2 ∨ kind ≠ 1 ∧ d = 0 then 2 else if kind ≠ 2 ∧ en = true then 4 else 0

set_option maxRecDepth 100000 in
set_option maxHeartbeats 8000000 in
theorem why08_any {ab al : Option Addr} {nb cb nl cl d : Nat} {w : World} {z1 z2 le mo kind key : Int} {en : Bool}
    (hE : ∀ W, Below w.heap.size w W → Calls Try.prog 104 #[.agg #[.slice ab nb cb, .slice al nl cl, .int .i64 d, .int .i64 0, .int .i64 z1, .int .i64 z2, .int .i64 le, .int .i64 mo]] W fun e w' => e = .returned (.bool en) ∧ Below W.heap.size W w') :
    Calls Try.prog 65 #[.agg #[.slice ab nb cb, .slice al nl cl, .int .i64 d, .int .i64 0, .int .i64 z1, .int .i64 z2, .int .i64 le, .int .i64 mo], .agg #[.int .i64 kind, .int .u64 key]] w fun e w' => e = .returned (.int .i64 (why8 d en kind)) ∧ Below w.heap.size w w' := by
  have HE := Lib.hid hE
  clear hE
  by_cases c0 : kind < 1
  · have hq : why8 d en kind = 180 := if_pos (.inl c0)
    rw [hq]
    clear hq
    go_enter Try.func65, Try.ntmps65
    go_wp2_with fail
    go_ret
    exact ⟨rfl, later_trans (later_alloc w _) (later_alloc _ _)⟩
  · by_cases c4 : 4 < kind
    · have hq : why8 d en kind = 180 := if_pos (.inr c4)
      rw [hq]
      clear hq
      go_enter Try.func65, Try.ntmps65
      go_wp2_with fail
      go_ret
      exact ⟨rfl, later_trans (later_alloc w _) (later_alloc _ _)⟩
    · have hr : ¬ (kind < 1 ∨ 4 < kind) := by omega
      by_cases k1 : kind = 1
      · subst k1
        by_cases d2 : d = 2
        · subst d2
          have hq : why8 2 en 1 = 2 := by simp [why8]
          rw [hq]
          clear hq hr c0 c4
          go_enter Try.func65, Try.ntmps65
          go_wp2_with fail
          go_ret
          exact ⟨rfl, later_trans (later_alloc w _) (later_alloc _ _)⟩
        · have e2 : ((d : Int) == 2) = false := by rw [beq_eq_false_iff_ne]; omega
          cases en
          · have hq : why8 d false 1 = 0 := by simp [why8, d2]
            rw [hq]
            clear hq hr c0 c4 d2
            go_enter Try.func65, Try.ntmps65
            go_wp2_with fail
            refine (HE.out _ (later_trans (later_alloc w _) (later_alloc _ _))).mono ?_
            rintro e w2 ⟨rfl, hb2⟩
            have hbw := later_trans (later_trans (later_alloc w _) (later_alloc _ _)) hb2
            clear hb2
            go_wp2_with fail
            go_ret
            exact ⟨rfl, hbw⟩
          · have hq : why8 d true 1 = 4 := by simp [why8, d2]
            rw [hq]
            clear hq hr c0 c4 d2
            go_enter Try.func65, Try.ntmps65
            go_wp2_with fail
            refine (HE.out _ (later_trans (later_alloc w _) (later_alloc _ _))).mono ?_
            rintro e w2 ⟨rfl, hb2⟩
            have hbw := later_trans (later_trans (later_alloc w _) (later_alloc _ _)) hb2
            clear hb2
            go_wp2_with fail
            go_ret
            exact ⟨rfl, hbw⟩
      · have f1 : (kind == 1) = false := by rw [beq_eq_false_iff_ne]; exact k1
        have f1' : (kind != 1) = true := by rw [bne_iff_ne]; exact k1
        by_cases d0 : d = 0
        · subst d0
          have hq : why8 0 en kind = 2 := by simp [why8, hr, k1]
          rw [hq]
          clear hq hr k1
          go_enter Try.func65, Try.ntmps65
          go_wp2_with fail
          go_ret
          exact ⟨rfl, later_trans (later_alloc w _) (later_alloc _ _)⟩
        · have e0 : ((d : Int) == 0) = false := by rw [beq_eq_false_iff_ne]; omega
          by_cases k2 : kind = 2
          · subst k2
            have hq : why8 d en 2 = 0 := by simp [why8, d0]
            rw [hq]
            clear hq hr k1 d0 c0 c4 f1 f1'
            go_enter Try.func65, Try.ntmps65
            go_wp2_with fail
            go_ret
            exact ⟨rfl, later_trans (later_alloc w _) (later_alloc _ _)⟩
          · have f2 : (kind != 2) = true := by rw [bne_iff_ne]; exact k2
            cases en
            · have hq : why8 d false kind = 0 := by simp [why8, hr, k1, d0]
              rw [hq]
              clear hq hr k1 d0 k2
              go_enter Try.func65, Try.ntmps65
              go_wp2_with fail
              refine (HE.out _ (later_trans (later_alloc w _) (later_alloc _ _))).mono ?_
              rintro e w2 ⟨rfl, hb2⟩
              have hbw := later_trans (later_trans (later_alloc w _) (later_alloc _ _)) hb2
              clear hb2
              go_wp2_with fail
              go_ret
              exact ⟨rfl, hbw⟩
            · have hq : why8 d true kind = 4 := by simp [why8, hr, k1, k2, d0]
              rw [hq]
              clear hq hr k1 d0 k2
              go_enter Try.func65, Try.ntmps65
              go_wp2_with fail
              refine (HE.out _ (later_trans (later_alloc w _) (later_alloc _ _))).mono ?_
              rintro e w2 ⟨rfl, hb2⟩
              have hbw := later_trans (later_trans (later_alloc w _) (later_alloc _ _)) hb2
              clear hb2
              go_wp2_with fail
              go_ret
              exact ⟨rfl, hbw⟩
end Go.Proofs.Ytdfnfdgkhflonaa
