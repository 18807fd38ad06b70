/-
  The law's small trie, and its wakes.
-/
import Derived.Test.YtdfnfdgkhflonaaCuN
namespace Go.Proofs.Ytdfnfdgkhflonaa
open Go.RowKit
set_option linter.unusedVariables false

def smB : List Br := [⟨3, 0, 3⟩, ⟨7, 3, 4⟩]
def smL : List Int := [1, 5, 9, 2]
theorem sm_trie : TrieS smB smL := by
  refine ⟨⟨by decide, fun i hi => ?_, by decide⟩, by decide⟩
  have h2' : i < 2 := hi
  have : i = 0 ∨ i = 1 := by omega
  rcases this with rfl | rfl
  · refine ⟨⟨by decide, by decide, by decide, Or.inl rfl⟩, fun k h1 h2 => ?_⟩
    have e1 : (0 : Int) < k := h1
    have e2 : (k : Int) < 3 := h2
    have : k = 1 ∨ k = 2 := by omega
    rcases this with rfl | rfl <;> decide
  · refine ⟨⟨by decide, by decide, by decide, Or.inr (by decide)⟩, fun k h1 h2 => ?_⟩
    have e1 : (3 : Int) < k := h1
    have e2 : (k : Int) < 4 := h2
    omega
theorem smB_wf : ∀ b ∈ smB, b.wf := by
  intro p hp
  simp [smB] at hp
  rcases hp with rfl | rfl <;> exact ⟨by decide, by decide, by decide⟩
theorem slB_litS (w : World) : SlB (w.alloc (.cells #[.int .u64 3, .int .i64 0, .int .i64 3, .int .u64 7, .int .i64 3, .int .i64 4] 40)) (.slice (some ⟨w.heap.size, 0, none⟩) 2 2) smB := by
  have h := World.ownsRow_lit (base := w.heap.size) (e := 40) (size := 3) w #[.int .u64 3, .int .i64 0, .int .i64 3, .int .u64 7, .int .i64 3, .int .i64 4] 2 (Nat.le_refl _) (by simp [maxLen]) (by simp)
  exact ⟨SlT.of_owns (xs := smB) (cells := Br.cells) (by simpa [smB, Br.cells] using h), smB_wf⟩
theorem slI_litS (w : World) (t : TypeId) (xs : List Int) (n : Nat) (hn : n = xs.length) (hm : n ≤ maxLen) (hw : ∀ x ∈ xs, (Lit.int .u64 x).wf = true) :
    SlI .u64 (w.alloc (.cells (xs.map (Value.int .u64)).toArray t)) (.slice (some ⟨w.heap.size, 0, none⟩) n n) xs := by
  subst hn
  have h := World.ownsRow_lit (base := w.heap.size) (e := t) (size := 1) w (xs.map (Value.int .u64)).toArray xs.length (Nat.le_refl _) hm (by simp)
  exact SlI.of_owns (n := xs.length) (by simpa using h) hw

set_option maxHeartbeats 1000000 in
theorem small8_any (w : World) : Calls Try.prog 57 #[] w fun e w' => ∃ vb vl, e = .returned (.agg #[vb, vl]) ∧ SlB w' vb smB ∧ SlI .u64 w' vl smL ∧ Below w.heap.size w w' := by
  go_enter Try.func57, Try.ntmps57
  go_wp2
  simp [bodyPost, results, Try.results57, go_sem]
  refine ⟨_, _, ⟨rfl, rfl⟩, ?_, ?_, ((later_alloc w _).alloc (by simp) _).alloc (by simp; omega) _⟩
  · have h := SlB.later (slB_litS (w.alloc (.cells #[.slice (some ⟨w.heap.size + 1, 0, none⟩) 2 2, .slice (some ⟨w.heap.size + 1 + 1, 0, none⟩) 4 4] 25))) (later_alloc _ (.cells #[.int .u64 1, .int .u64 5, .int .u64 9, .int .u64 2] 38))
    simpa using h
  · have h := slI_litS ((w.alloc (.cells #[.slice (some ⟨w.heap.size + 1, 0, none⟩) 2 2, .slice (some ⟨w.heap.size + 1 + 1, 0, none⟩) 4 4] 25)).alloc (.cells #[.int .u64 3, .int .i64 0, .int .i64 3, .int .u64 7, .int .i64 3, .int .i64 4] 40)) 38 smL 4 rfl (by simp [maxLen]) (by decide)
    simpa [smL] using h

theorem steps_sm {n : Int} (h : Steps smB smL 4 4 [0, 0] n) : 1 ≤ n ∧ n ≤ 2000 := by
  obtain ⟨looks, ⟨h1, -⟩, rfl⟩ : ∃ looks : Nat, FewR 3 0 (fun j => geB 4 ((rowAt smB smL [0, 0]).getD j 0)) 1 looks ∧ n = looks := h
  have h2 := few_bound h1 (by decide) (by decide) (by decide) (by decide)
  have h3 := h1.2 (by decide)
  omega

set_option maxRecDepth 100000 in
set_option maxHeartbeats 4000000 in
theorem wakes8_any (w : World) : Calls Try.prog 13 #[] w fun e w' => e = .returned (.bool true) ∧ Below w.heap.size w w' := by
  have hq1 : whyQ smB smL [] 1 = 0 := by decide
  have hq2 : whyQ smB smL [0] 1 = 0 := by decide
  have hq3 : whyQ smB smL [0, 0] 4 = 0 := by decide
  have hq4 : whyQ smB smL [0, 1] 1 = 2 := by decide
  have hm1 : moved smB smL 1 0 [] = [0] := by decide
  have hm2 : moved smB smL 1 0 [0] = [0, 0] := by decide
  have hm3 : moved smB smL 4 4 [0, 0] = [0, 1] := by decide
  go_enter Try.func13, Try.ntmps13
  go_wp2_with fail
  refine (small8_any _).mono ?_
  rintro e w1 ⟨vb, vl, rfl, hB, hL, hb1⟩
  go_wp2_with fail
  refine (New1 vb vl smB smL w1 hB hL sm_trie).mono ?_
  rintro e w2 ⟨c, rfl, hb2, hc⟩
  have hcB := Lib.hid (hc.down hb1.size)
  have hb2 := later_trans hb1 hb2
  clear hc hB hL hb1
  go_wp2_with fail
  refine (Open1 hcB.out sm_trie (by decide) (by decide)).mono ?_
  rintro e w3 ⟨rfl, ⟨hb3, -⟩, hy, -⟩
  obtain ⟨n, hn, hc⟩ := hy hq1
  rw [hq1]
  rw [hm1] at hc
  obtain rfl : n = 1 := by simpa [Steps] using hn
  have hb3 := hb2.trans hb3
  have hc3 := Lib.hid hc
  clear hcB hb2 hy hc hn
  go_wp2_with fail
  refine (Open1 hc3.out sm_trie (by decide) (by decide)).mono ?_
  rintro e w4 ⟨rfl, ⟨hb4, -⟩, hy, -⟩
  obtain ⟨n, hn, hc⟩ := hy hq2
  rw [hq2]
  rw [hm2] at hc
  obtain rfl : n = 1 := by simpa [Steps] using hn
  have hb4 := hb3.trans hb4
  have hc4 := Lib.hid hc
  clear hc3 hb3 hy hc hn
  go_wp2_with fail
  refine (Seek1 hc4.out sm_trie (by decide) (by decide)).mono ?_
  rintro e w5 ⟨rfl, ⟨hb5, -⟩, hy, -⟩
  obtain ⟨n, hn, hc⟩ := hy hq3
  rw [hq3]
  rw [hm3] at hc
  have hn := Lib.hid (steps_sm hn)
  have hb5 := hb4.trans hb5
  have hc5 := Lib.hid hc
  clear hc4 hb4 hy hc
  go_wp2_with fail
  refine (Key1 hc5.out sm_trie).mono ?_
  rintro e w6 ⟨rfl, j, hw6⟩
  rw [show keyOf smB smL [0, 1] = 5 from by decide, show isKey smB smL [0, 1] = true from by decide]
  have hb65 : Below w5.heap.size w5 w6 := by rw [hw6]; exact later_drewN w5 j
  have hc6 := Lib.hid (hc5.out.later hb65)
  have hb6 := hb5.trans (hb65.mono (by have := hb5.size; omega))
  clear hc5 hb5 hb65 hw6
  go_wp2_with fail
  refine (Left1 hc6.out sm_trie).mono ?_
  rintro e w7 ⟨rfl, j, hw7⟩
  rw [show leftOf smB smL [0, 1] = 2 from by decide]
  have hb76 : Below w6.heap.size w6 w7 := by rw [hw7]; exact later_drewN w6 j
  have hc7 := Lib.hid (hc6.out.later hb76)
  have hb7 := hb6.trans (hb76.mono (by have := hb6.size; omega))
  clear hc6 hb6 hb76 hw7
  go_wp2_with fail
  refine (Depth1 hc7.out).mono ?_
  rintro e w' ⟨rfl, rfl⟩
  go_wp2_with fail
  refine (Path1 hc7.out).mono ?_
  rintro e w8 ⟨v8, rfl, o8, hb87⟩
  rw [show pathOf smB smL [0, 1] = [3, 5] from by decide] at o8
  have s8 : SlI .u64 w8 v8 [3, 5] := SlI.of_owns (n := 2) o8 (by decide)
  have hc8 := Lib.hid (hc7.out.later hb87)
  have hb8 := hb7.trans (hb87.mono (by have := hb7.size; omega))
  clear hc7 hb7 hb87 o8
  go_wp2_with fail
  refine (equal_any _ _ [3, 5] [3, 5] _ (s8.alloc _) (slI_litS w8 38 [3, 5] 2 rfl (by simp [maxLen]) (by decide))).mono ?_
  rintro e w9 ⟨rfl, j, hw9⟩
  rw [show decide (([3, 5] : List Int) = [3, 5]) = true from by decide]
  have hb98 : Below w8.heap.size w8 w9 := by rw [hw9]; exact later_trans (later_alloc w8 _) (later_drewN _ j)
  have hc9 := Lib.hid (hc8.out.later hb98)
  have hb9 := hb8.trans (hb98.mono (by have := hb8.size; omega))
  clear hc8 hb8 hb98 hw9 s8
  obtain ⟨st, hst⟩ : ∃ st : Int, (0 : Int) + 1 + 1 + n = st := ⟨_, rfl⟩
  rw [hst] at hc9
  have hn1 := hn.out
  have hs3 : (3 : Int) ≤ st := by omega
  have hs4 : st ≤ 4611686018427387904 := by omega
  clear hst hn1
  go_wp2_with fail
  refine (Steps1 hc9.out).mono ?_
  rintro e w' ⟨rfl, rfl⟩
  go_wp2_with fail
  refine (Open1 hc9.out sm_trie (by omega) hs4).mono ?_
  rintro e wa ⟨rfl, ⟨hba, -⟩, -, -⟩
  rw [hq4]
  have hba := hb9.trans hba
  go_wp2_with fail
  go_ret
  exact ⟨rfl, hba⟩
end Go.Proofs.Ytdfnfdgkhflonaa
