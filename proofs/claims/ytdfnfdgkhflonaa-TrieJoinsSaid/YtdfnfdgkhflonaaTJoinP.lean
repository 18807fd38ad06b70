/-
  Merge and Cut, said for every trie at once; what the two references make.
-/
import Derived.Test.YtdfnfdgkhflonaaTRefRun
import Derived.Test.YtdfnfdgkhflonaaTOfP2
import Derived.Test.YtdfnfdgkhflonaaTRefCut
import Derived.Test.YtdfnfdgkhflonaaTCutF
import Derived.Test.YtdfnfdgkhflonaaTLawA
import Derived.Test.YtdfnfdgkhflonaaTMerge
import Derived.Test.YtdfnfdgkhflonaaTBackP
namespace Go.Proofs.Ytdfnfdgkhflonaa
open Go.RowKit
set_option linter.unusedVariables false

/-- The run of both. -/
def bothOf (A B : List Br) (L M : List Int) : List Pr := unionL (runOf A L) (runOf B M)
/-- What Merge gives. -/
def JM (A B : List Br) (L M : List Int) (mB : List Br) (mL : List Int) (q : Int) : Prop :=
  ((TrieOk A L ∧ TrieOk B M) → mB = brOf (bothOf A B L M) ∧ mL = (bothOf A B L M).map Pr.b ∧ q = 0) ∧ (¬ (TrieOk A L ∧ TrieOk B M) → mB = [] ∧ mL = [] ∧ q = 170)
/-- What is left of a run. -/
def partOf (A : List Br) (L : List Int) (f t : Int) : List Pr := (runOf A L).filter (fun p => !cutB f t p)
/-- What Cut gives. -/
def JC (A : List Br) (L : List Int) (f t : Int) (cB : List Br) (cL : List Int) (q : Int) : Prop :=
  (TrieOk A L → f ≤ t → cB = brOf (partOf A L f t) ∧ cL = (partOf A L f t).map Pr.b ∧ q = 0) ∧ (TrieOk A L → ¬ f ≤ t → cB = [] ∧ cL = [] ∧ q = 2) ∧ (¬ TrieOk A L → cB = [] ∧ cL = [] ∧ q = 170)

theorem run_length {B : List Br} {L : List Int} (h : TrieOk B L) : (runOf B L).length = L.length := by
  have := congrArg List.length (run_leaves h)
  simpa using this

theorem mergeU_any (va vl vb vm : Value) (A B : List Br) (L M : List Int) (w : World) (hA : SlB w va A) (hL : SlI .u64 w vl L) (hB : SlB w vb B) (hM : SlI .u64 w vm M) (hLm : L.length + M.length ≤ 1048575) :
    Calls Try.prog 47 #[.agg #[va, vl], .agg #[vb, vm]] w fun e w' => ∃ ab cb al cl mB mL q, e = .returned (.tuple #[.agg #[.slice ab mB.length cb, .slice al mL.length cl], .int .i64 q]) ∧ Below w.heap.size w w' ∧ SlB w' (.slice ab mB.length cb) mB ∧ SlI .u64 w' (.slice al mL.length cl) mL ∧
      w'.ownsRow w.heap.size 38 1 (.slice al mL.length cl) mL.length (mL.map (.int .u64)) ∧ mL.length ≤ 1048575 ∧ JM A B L M mB mL q := by
  refine (merge_any va vl vb vm A B L M w hA hL hB hM hLm).mono ?_
  rintro e w' ⟨vb', vl', q, rfl, hb, hy, hn⟩
  by_cases h : TrieOk A L ∧ TrieOk B M
  · obtain ⟨rfl, hB', hL'⟩ := hy h
    obtain ⟨ab, cb, rfl⟩ := owns_shape2 hB'
    rw [List.length_map] at hL'
    obtain ⟨al, cl, rfl⟩ := owns_shape2 hL'
    have hwu : ∀ p ∈ bothOf A B L M, p.wf := union_wf (run_wf hA hL) (run_wf hB hM)
    have hlu : (bothOf A B L M).length ≤ 1048575 := Nat.le_trans (union_len _ _) (by rw [run_length h.1, run_length h.2]; exact hLm)
    have e1 : ((bothOf A B L M).map Pr.b).length = (bothOf A B L M).length := by simp
    refine ⟨ab, cb, al, cl, brOf (bothOf A B L M), (bothOf A B L M).map Pr.b, 0, by rw [e1]; rfl, hb, ⟨SlT.of_owns hB', br_wf hwu (by omega)⟩, ?_, ?_, by omega, fun _ => ⟨rfl, rfl, rfl⟩, fun h' => absurd h h'⟩
    · rw [e1]; exact SlI.of_owns hL' (leaf_wf hwu)
    · rw [e1]; exact hL'
  · obtain ⟨rfl, rfl, rfl⟩ := hn h
    exact ⟨none, 0, none, 0, [], [], 170, rfl, hb, SlB.nil _, SlI.nil _ _, World.ownsRow_nil _ _ _ _, by simp, fun h' => absurd h' h, fun _ => ⟨rfl, rfl, rfl⟩⟩

theorem cutU_any (vb vl : Value) (A : List Br) (L : List Int) (f t : Int) (w : World) (hB : SlB w vb A) (hL : SlI .u64 w vl L) (hLm : L.length ≤ 1048575) :
    Calls Try.prog 48 #[.agg #[vb, vl], .int .u64 f, .int .u64 t] w fun e w' => ∃ ab cb al cl mB mL q, e = .returned (.tuple #[.agg #[.slice ab mB.length cb, .slice al mL.length cl], .int .i64 q]) ∧ Below w.heap.size w w' ∧ SlB w' (.slice ab mB.length cb) mB ∧ SlI .u64 w' (.slice al mL.length cl) mL ∧
      w'.ownsRow w.heap.size 38 1 (.slice al mL.length cl) mL.length (mL.map (.int .u64)) ∧ mL.length ≤ 1048575 ∧ JC A L f t mB mL q := by
  refine (cut_any vb vl A L f t w hB hL).mono ?_
  rintro e w' ⟨vb', vl', q, rfl, hb, hy, hm, hn⟩
  by_cases h : TrieOk A L
  · by_cases hft : f ≤ t
    · obtain ⟨rfl, hB', hL'⟩ := hy h hft
      obtain ⟨ab, cb, rfl⟩ := owns_shape2 hB'
      rw [List.length_map] at hL'
      obtain ⟨al, cl, rfl⟩ := owns_shape2 hL'
      have hwu : ∀ p ∈ partOf A L f t, p.wf := fun p hp => run_wf hB hL p (List.mem_filter.1 hp).1
      have hlu : (partOf A L f t).length ≤ 1048575 := Nat.le_trans (List.length_filter_le _ _) (by rw [run_length h]; exact hLm)
      have e1 : ((partOf A L f t).map Pr.b).length = (partOf A L f t).length := by simp
      refine ⟨ab, cb, al, cl, brOf (partOf A L f t), (partOf A L f t).map Pr.b, 0, by rw [e1]; rfl, hb, ⟨SlT.of_owns hB', br_wf hwu (by omega)⟩, ?_, ?_, by omega, fun _ _ => ⟨rfl, rfl, rfl⟩, fun _ h' => absurd hft h', fun h' => absurd h h'⟩
      · rw [e1]; exact SlI.of_owns hL' (leaf_wf hwu)
      · rw [e1]; exact hL'
    · obtain ⟨rfl, rfl, rfl⟩ := hm h hft
      exact ⟨none, 0, none, 0, [], [], 2, rfl, hb, SlB.nil _, SlI.nil _ _, World.ownsRow_nil _ _ _ _, by simp, fun _ h' => absurd h' hft, fun _ _ => ⟨rfl, rfl, rfl⟩, fun h' => absurd h h'⟩
  · obtain ⟨rfl, rfl, rfl⟩ := hn h
    exact ⟨none, 0, none, 0, [], [], 170, rfl, hb, SlB.nil _, SlI.nil _ _, World.ownsRow_nil _ _ _ _, by simp, fun h' => absurd h' h, fun h' => absurd h' h, fun _ => ⟨rfl, rfl, rfl⟩⟩

/-- A run's trie, as the reference makes it. -/
theorem refofR_any (v : Value) (l : List Pr) (w : World) (h : SlP w v l) (hr : RunOk l) :
    Calls Try.prog 40 #[v] w fun e w' => ∃ ab cb al cl, e = .returned (.agg #[.slice ab (brOf l).length cb, .slice al (l.map Pr.b).length cl]) ∧ Below w.heap.size w w' ∧ SlB w' (.slice ab (brOf l).length cb) (brOf l) ∧ SlI .u64 w' (.slice al (l.map Pr.b).length cl) (l.map Pr.b) := by
  refine (refof_any v l w h hr.1).mono ?_
  rintro e w' ⟨vb, vl, rfl, hb, hB, hL⟩
  rw [br_same hr.2] at hB
  obtain ⟨ab, cb, rfl⟩ := owns_shape2 hB
  obtain ⟨al, cl, rfl⟩ := owns_shape2 hL
  exact ⟨ab, cb, al, cl, rfl, hb, ⟨SlT.of_owns hB, br_wf h.2 hr.1⟩, SlI.of_owns hL (leaf_wf h.2)⟩

theorem both_run {A B : List Br} {L M : List Int} (h : TrieOk A L) (k : TrieOk B M) (hl : L.length + M.length ≤ 1048575) : RunOk (bothOf A B L M) := union_run (run_run h) (run_run k) (by rw [run_length h, run_length k]; omega)
theorem both_same {A B : List Br} {L M : List Int} (h : TrieOk A L) (k : TrieOk B M) : (runOf B M).foldl withL ((runOf A L).foldl withL []) = bothOf A B L M := union_same (run_run h) (run_run k)
theorem part_run {A : List Br} {L : List Int} {f t : Int} (h : TrieOk A L) : RunOk (partOf A L f t) := run_filter (run_run h) _
end Go.Proofs.Ytdfnfdgkhflonaa
