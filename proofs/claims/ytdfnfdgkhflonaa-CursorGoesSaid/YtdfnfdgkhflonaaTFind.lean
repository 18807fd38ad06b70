/-
  The branch of a key, walked: trie's find.
-/
import Derived.Test.YtdfnfdgkhflonaaRows
import Derived.WalkKit
import Derived.WalkSpells
import Derived.WalkLawsBesides
import Derived.Deep.QuietTactic
import Derived.BigQuiet
import Derived.Outline
import Derived.WalkMore
import Derived.Test.YtdfnfdgkhflonaaBase
import Derived.Test.YtdfnfdgkhflonaaBase2
import Derived.Test.YtdfnfdgkhflonaaTPlain
import Derived.Test.YtdfnfdgkhflonaaTOwn2
import Derived.Test.YtdfnfdgkhflonaaTOfP
namespace Go.Proofs.Ytdfnfdgkhflonaa
open Go.RowKit
set_option linter.unusedVariables false

theorem less_any (a : Option Addr) (c : Nat) (vl pv : Value) (B : List Br) (key : Int) (K Q i : Nat) (w W : World) (hb : Below w.heap.size w W) (hB : SlB w (.slice a B.length c) B)
    (hK : W.heap[K]? = some (.cells #[.slice a B.length c, vl, pv] 120 (0, 0))) (hQ : W.heap[Q]? = some (.cells #[.int .u64 key] 38 (0, 0))) (hi : i < B.length) :
    Calls Try.prog 114 #[.int .i64 i, .pointer (some ⟨K, 0, none⟩), .pointer (some ⟨Q, 0, none⟩)] W fun e W' => e = .returned (.bool (decide (B[i].k < key))) ∧ ∃ n, W' = W.drewN n := by
  obtain ⟨a', c', e0, h1, h2, h3, h4⟩ := hB.open
  cases e0
  obtain ⟨bb, o, rfl, hbw, hcs⟩ := h4 (by omega)
  have hk := ((bcell hb).1 bb (o + i * 3) hbw).trans (hcs i hi).1
  have k0 := box_cell (i := 0) hK
  have q0 := box_cell (i := 0) hQ
  simp at k0 q0
  obtain ⟨x, hx⟩ : ∃ x, B[i].k = x := ⟨_, rfl⟩
  rw [hx] at hk ⊢
  clear hcs h3 h4 hx hB
  go_enter Try.func114, Try.ntmps114
  go_wp2
  go_quiet (fail)
  go_wp2
  go_ret
  exact ⟨rfl, _, rfl⟩

/-- What find hands back. -/
def FindOk (B : List Br) (key : Int) (b : Br) (ok : Bool) : Prop :=
  (ok = true → ∃ i, ∃ h : i < B.length, b = B[i] ∧ B[i].k = key) ∧ (ok = false → b = Br.no ∧ ∀ i, (h : i < B.length) → B[i].k ≠ key)

set_option maxRecDepth 100000 in
set_option maxHeartbeats 2000000 in
theorem find_any (vb vl pv : Value) (B : List Br) (key : Int) (w : World) (hB : SlB w vb B) (hr : ∀ i j, (hij : i < j) → (hj : j < B.length) → B[i].k < B[j].k) (hl : B.length ≤ 1099511627776) :
    Calls Try.prog 85 #[.agg #[vb, vl, pv], .int .u64 key] w fun e w' => ∃ b ok, e = .returned (.tuple #[.agg #[.int .u64 b.k, .int .i64 b.f, .int .i64 b.t], .bool ok]) ∧ FindOk B key b ok ∧ Below w.heap.size w w' := by
  obtain ⟨a, c, rfl, h1, h2, h3, h4⟩ := hB.open
  have HX := Lib.hid h4
  have HR := Lib.hid hr
  obtain ⟨W, hW⟩ : ∃ W, ((w.alloc (.cells #[.slice a B.length c, vl, pv] 120)).alloc (.cells #[.int .u64 key] 38)).alloc (.cells #[.int .u64 0, .int .i64 0, .int .i64 0] 40) = W := ⟨_, rfl⟩
  obtain ⟨K, hKe⟩ : ∃ K, w.heap.size = K := ⟨_, rfl⟩
  have hbW : Below w.heap.size w W := by rw [← hW]; exact later_trans (later_trans (later_alloc w _) (later_alloc _ _)) (later_alloc _ _)
  have hK : W.heap[K]? = some (.cells #[.slice a B.length c, vl, pv] 120 (0, 0)) := by rw [← hW, ← hKe]; exact box_alloc (box_alloc (box_new w _ _) _) _
  have hQ : W.heap[K + 1]? = some (.cells #[.int .u64 key] 38 (0, 0)) := by
    rw [← hW, ← hKe]
    have := box_new (w.alloc (.cells #[.slice a B.length c, vl, pv] 120)) #[.int .u64 key] 38
    exact box_alloc (by simpa using this) _
  have hR : W.heap[K + 1 + 1]? = some (.cells #[.int .u64 0, .int .i64 0, .int .i64 0] 40 (0, 0)) := by
    rw [← hW, ← hKe]
    have := box_new ((w.alloc (.cells #[.slice a B.length c, vl, pv] 120)).alloc (.cells #[.int .u64 key] 38)) #[.int .u64 0, .int .i64 0, .int .i64 0] 40
    simpa using this
  have hless := Lib.hid (fun (n i : Nat) (hi : i < B.length) => less_any a c vl pv B key K (K + 1) i w (W.drewN n) (later_trans hbW (later_drewN W n)) hB hK hQ hi)
  have k0 := box_cell (i := 0) hK
  have q0 := box_cell (i := 0) hQ
  have r0 := box_cell (i := 0) hR
  have r1 := box_cell (i := 1) hR
  have r2 := box_cell (i := 2) hR
  have f0 := box_frozen (i := 0) hR
  have f1 := box_frozen (i := 1) hR
  have f2 := box_frozen (i := 2) hR
  simp at k0 q0 r0 r1 r2
  clear h1 h2 h3 h4 hB hr
  go_enter Try.func85, Try.ntmps85
  go_wp2
  go_step3
  go_wp2
  go_quiet (fail)
  go_wp2
  go_step3
  go_wp2
  go_loopw [7, 8] (fun lo hi wr => ∃ l h : Nat, l ≤ h ∧ h ≤ B.length ∧ lo = .int .i64 l ∧ hi = .int .i64 h ∧ (∀ j, j < l → (hj : j < B.length) → B[j].k < key) ∧ (∀ j, h ≤ j → (hj : j < B.length) → key ≤ B[j].k) ∧ ∃ n, wr = W.drewN n) (fun lo hi _ => (intOf hi - intOf lo).toNat)
  case atStart => exact ⟨0, B.length, Nat.zero_le _, Nat.le_refl _, rfl, rfl, fun j hj => by omega, fun j hj hj' => by omega, _, rfl⟩
  case round =>
    obtain ⟨l, h, hlh, hhn, rfl, rfl, hlo, hhi, n, rfl⟩ := hrel
    have HLO := Lib.hid hlo
    have HHI := Lib.hid hhi
    clear hlo hhi
    by_cases he : l = h
    · subst he
      have hed : ((l : Int) == (l : Int)) = true := by simp
      have k0 : (W.drewN n).cell? ⟨K, 0, none⟩ = some (.slice a B.length c) := k0
      have q0 : (W.drewN n).cell? ⟨K + 1, 0, none⟩ = some (.int .u64 key) := q0
      by_cases hl0 : l = B.length
      · have hle : ((l : Int) == (B.length : Int)) = true := beq_iff_eq.2 (by omega)
        have HNO := Lib.hid (show ∀ i, (hi : i < B.length) → B[i].k ≠ key from fun i hi he => absurd (HLO.out i (by omega) hi) (by omega))
        go_wp2
        go_quiet (fail)
        obtain ⟨V, hV⟩ : ∃ V, (W.drewN n).drewN nq = V := ⟨_, rfl⟩
        have hRV : V.heap[K + 1 + 1]? = some (.cells #[.int .u64 0, .int .i64 0, .int .i64 0] 40 (0, 0)) := by rw [← hV]; exact hR
        have hbV : Below w.heap.size w V := by rw [← hV]; exact later_trans hbW (later_trans (later_drewN _ _) (later_drewN _ _))
        skip
        rw [hV]
        have v0 := box_cell (i := 0) hRV
        have v1 := box_cell (i := 1) hRV
        have v2 := box_cell (i := 2) hRV
        have g0 := box_frozen (i := 0) hRV
        have g1 := box_frozen (i := 1) hRV
        have g2 := box_frozen (i := 2) hRV
        simp at v0 v1 v2
        clear hV
        go_wp2
        rw [Exit.noGoto_ret]
        have hR3 := box_set (i := 2) (box_set (i := 1) (box_set (i := 0) hRV (.int .u64 0)) (.int .i64 0)) (.int .i64 0)
        have d0 := box_cell (i := 0) hR3
        have d1 := box_cell (i := 1) hR3
        have d2 := box_cell (i := 2) hR3
        simp at d0 d1 d2
        refine bodyPost_ret (v := .tuple #[.agg #[.int .u64 0, .int .i64 0, .int .i64 0], .bool false]) ?_ rfl ?_
        · simp [results, Try.results85, go_sem, d0, d1, d2]
        · exact ⟨Br.no, false, rfl, ⟨fun h => (by cases h), fun _ => ⟨rfl, fun i hi he => HNO.out i hi he⟩⟩, ((hbV.setCell (by simp; omega) _).setCell (by simp; omega) _).setCell (by simp; omega) _⟩
      · have hle : ((l : Int) == (B.length : Int)) = false := beq_eq_false_iff_ne.2 (by omega)
        have hll : l < B.length := by omega
        obtain ⟨bb, o, rfl, hbw, hcs⟩ := HX.out (by omega)
        obtain ⟨hk1, hf1, ht1⟩ := hcs l hll
        have hk1 := ((bcell hbW).1 bb (o + l * 3) hbw).trans hk1
        have hf1 := ((bcell hbW).1 bb (o + l * 3 + 1) hbw).trans hf1
        have ht1 := ((bcell hbW).1 bb (o + l * 3 + 2) hbw).trans ht1
        obtain ⟨b, hb⟩ : ∃ b, B[l] = b := ⟨_, rfl⟩
        have HB := Lib.hid hb
        rw [hb] at hk1 hf1 ht1
        have hk1' : (W.drewN n).cell? ⟨bb, o + l * 3, none⟩ = some (.int .u64 b.k) := hk1
        by_cases hk : b.k = key
        · have hkb : (b.k != key) = false := by simp [hk]
          have HFO := Lib.hid (show FindOk B key b true from ⟨fun _ => ⟨l, hll, hb.symm, by rw [hb]; exact hk⟩, fun h => by cases h⟩)
          clear hcs hb hk hl0
          go_wp2
          go_quiet (fail)
          obtain ⟨V, hV⟩ : ∃ V, (W.drewN n).drewN nq = V := ⟨_, rfl⟩
          have hRV : V.heap[K + 1 + 1]? = some (.cells #[.int .u64 0, .int .i64 0, .int .i64 0] 40 (0, 0)) := by rw [← hV]; exact hR
          have hbV : Below w.heap.size w V := by rw [← hV]; exact later_trans hbW (later_trans (later_drewN _ _) (later_drewN _ _))
          have hk2 : V.cell? ⟨bb, o + l * 3, none⟩ = some (.int .u64 b.k) := by rw [← hV]; exact hk1
          have hf2 : V.cell? ⟨bb, o + l * 3 + 1, none⟩ = some (.int .i64 b.f) := by rw [← hV]; exact hf1
          have ht2 : V.cell? ⟨bb, o + l * 3 + 2, none⟩ = some (.int .i64 b.t) := by rw [← hV]; exact ht1
          have k02 : V.cell? ⟨K, 0, none⟩ = some (.slice (some ⟨bb, o, none⟩) B.length c) := by rw [← hV]; exact k0
          rw [hV]
          have v0 := box_cell (i := 0) hRV
          have v1 := box_cell (i := 1) hRV
          have v2 := box_cell (i := 2) hRV
          have g0 := box_frozen (i := 0) hRV
          have g1 := box_frozen (i := 1) hRV
          have g2 := box_frozen (i := 2) hRV
          simp at v0 v1 v2
          clear hV
          go_wp2
          rw [Exit.noGoto_ret]
          have hR3 := box_set (i := 2) (box_set (i := 1) (box_set (i := 0) hRV (.int .u64 b.k)) (.int .i64 b.f)) (.int .i64 b.t)
          have d0 := box_cell (i := 0) hR3
          have d1 := box_cell (i := 1) hR3
          have d2 := box_cell (i := 2) hR3
          simp at d0 d1 d2
          refine bodyPost_ret (v := .tuple #[.agg #[.int .u64 b.k, .int .i64 b.f, .int .i64 b.t], .bool true]) ?_ rfl ?_
          · simp [results, Try.results85, go_sem, d0, d1, d2]
          · exact ⟨b, true, rfl, HFO.out, ((hbV.setCell (by simp; omega) _).setCell (by simp; omega) _).setCell (by simp; omega) _⟩
        · have hkb : (b.k != key) = true := by simp [hk]
          have HNO := Lib.hid (show ∀ i, (hi : i < B.length) → B[i].k ≠ key from fun i hi he => by
            have h1 : key ≤ B[l].k := HHI.out l (Nat.le_refl _) hll
            rw [hb] at h1
            by_cases hil : i < l
            · have := HLO.out i hil hi; omega
            · by_cases hil2 : i = l
              · subst hil2; rw [hb] at he; exact hk he
              · have h2 := HR.out l i (by omega) hi
                rw [hb] at h2
                omega)
          clear hcs hb hk hl0
          go_wp2
          go_quiet (fail)
          obtain ⟨V, hV⟩ : ∃ V, (W.drewN n).drewN nq = V := ⟨_, rfl⟩
          have hRV : V.heap[K + 1 + 1]? = some (.cells #[.int .u64 0, .int .i64 0, .int .i64 0] 40 (0, 0)) := by rw [← hV]; exact hR
          have hbV : Below w.heap.size w V := by rw [← hV]; exact later_trans hbW (later_trans (later_drewN _ _) (later_drewN _ _))
          skip
          rw [hV]
          have v0 := box_cell (i := 0) hRV
          have v1 := box_cell (i := 1) hRV
          have v2 := box_cell (i := 2) hRV
          have g0 := box_frozen (i := 0) hRV
          have g1 := box_frozen (i := 1) hRV
          have g2 := box_frozen (i := 2) hRV
          simp at v0 v1 v2
          clear hV
          go_wp2
          rw [Exit.noGoto_ret]
          have hR3 := box_set (i := 2) (box_set (i := 1) (box_set (i := 0) hRV (.int .u64 0)) (.int .i64 0)) (.int .i64 0)
          have d0 := box_cell (i := 0) hR3
          have d1 := box_cell (i := 1) hR3
          have d2 := box_cell (i := 2) hR3
          simp at d0 d1 d2
          refine bodyPost_ret (v := .tuple #[.agg #[.int .u64 0, .int .i64 0, .int .i64 0], .bool false]) ?_ rfl ?_
          · simp [results, Try.results85, go_sem, d0, d1, d2]
          · exact ⟨Br.no, false, rfl, ⟨fun h => (by cases h), fun _ => ⟨rfl, fun i hi he => HNO.out i hi he⟩⟩, ((hbV.setCell (by simp; omega) _).setCell (by simp; omega) _).setCell (by simp; omega) _⟩
    · have hed : ((l : Int) == (h : Int)) = false := beq_eq_false_iff_ne.2 (by omega)
      obtain ⟨m, hm⟩ : ∃ m, (l + h) / 2 = m := ⟨_, rfl⟩
      have hml : m < B.length := by omega
      have hquo : ((l : Int) + (h : Int)) / 2 = (m : Int) := by omega
      have hquo2 : ((l : Int) + (h : Int)).tdiv 2 = (m : Int) := by rw [Int.tdiv_eq_ediv_of_nonneg (by omega)]; exact hquo
      have HL := hless.out n m hml
      by_cases hk : B[m].k < key
      · rw [decide_eq_true hk] at HL
        have HL := Lib.hid HL
        go_wp2_with (go_at_call 114; refine HL.out.mono ?_; rintro e w2 ⟨rfl, n2, rfl⟩)
        go_roundw
        case rel => exact ⟨m + 1, h, by omega, hhn, by go_num, rfl, fun j hj hj' => by
          by_cases e : j = m
          · subst e; exact hk
          · exact Int.lt_trans (HR.out j m (by omega) hml) hk, HHI.out, _, rfl⟩
        case measure => simp [intOf]; omega
      · rw [decide_eq_false hk] at HL
        have HL := Lib.hid HL
        go_wp2_with (go_at_call 114; refine HL.out.mono ?_; rintro e w2 ⟨rfl, n2, rfl⟩)
        go_roundw
        case rel => exact ⟨l, m, by omega, by omega, rfl, by go_num, HLO.out, fun j hj hj' => by
          by_cases e : j = m
          · subst e; omega
          · have := HR.out m j (by omega) hj'; omega, _, rfl⟩
        case measure => simp [intOf]; omega
end Go.Proofs.Ytdfnfdgkhflonaa
