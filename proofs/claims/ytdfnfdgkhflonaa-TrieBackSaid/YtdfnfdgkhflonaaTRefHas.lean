/-
  The document's Has, walked.
-/
import Derived.Test.YtdfnfdgkhflonaaTRefRun
import Derived.Test.YtdfnfdgkhflonaaTCutF
namespace Go.Proofs.Ytdfnfdgkhflonaa
open Go.RowKit
set_option linter.unusedVariables false

theorem any_upto {l : List Pr} {q : Pr → Bool} (h : ∀ j, (hj : j < l.length) → q l[j] = false) : l.any q = false := by
  rw [List.any_eq_false]
  intro p hp
  obtain ⟨j, hj, rfl⟩ := List.getElem_of_mem hp
  simp [h j hj]
theorem any_at {l : List Pr} {q : Pr → Bool} {i : Nat} (hi : i < l.length) (h : q l[i] = true) : l.any q = true := by
  rw [List.any_eq_true]
  exact ⟨l[i], List.getElem_mem hi, h⟩

set_option maxRecDepth 100000 in
set_option maxHeartbeats 2000000 in
theorem refhas0_any (vb vl : Value) (ap : Option Addr) (cp : Nat) (B : List Br) (L : List Int) (w : World) (hB : SlB w vb B) (hL : SlI .u64 w vl L) (hok : TrieOk B L) :
    Calls Try.prog 45 #[.agg #[vb, vl], .slice ap 0 cp] w fun e w' => e = .returned (.bool ((runOf B L).any (fun _ => true))) ∧ Below w.heap.size w w' := by
  obtain ⟨a, c, rfl, -⟩ := hB.open
  obtain ⟨a', c', rfl, -⟩ := hL.open
  have hRR := fun W (hW : Below w.heap.size w W) => refrun_any _ _ B L W (hB.later hW) (hL.later hW) hok
  have HR := Lib.hid hRR
  have HWF := Lib.hid (run_wf hB hL)
  obtain ⟨l, hl⟩ : ∃ l, runOf B L = l := ⟨_, rfl⟩
  rw [hl] at HR HWF ⊢
  obtain ⟨W, hW⟩ : ∃ W, w.alloc (.cells #[.slice a B.length c, .slice a' L.length c'] 25) = W := ⟨_, rfl⟩
  obtain ⟨K, hKe⟩ : ∃ K, w.heap.size = K := ⟨_, rfl⟩
  have hbW : Below w.heap.size w W := by rw [← hW]; exact later_alloc w _
  have hKb : W.heap[K]? = some (.cells #[.slice a B.length c, .slice a' L.length c'] 25 (0, 0)) := by rw [← hW, ← hKe]; exact box_new w _ _
  have k0 := box_cell (i := 0) hKb
  have k1 := box_cell (i := 1) hKb
  simp at k0 k1
  clear hB hL hok hRR hl
  go_enter Try.func45, Try.ntmps45
  go_wp2_with (go_at_call 41; refine (HR.out _ hbW).mono ?_; rintro e w1 ⟨v1, rfl, ho, hb1⟩; have hsl := SlP.open ⟨SlT.of_owns ho, HWF.out⟩; obtain ⟨a1, c1, rfl, g1, g2, g3, g4⟩ := hsl)
  have HC := Lib.hid g4
  have hbw1 := later_trans hbW hb1
  have hlm : l.length ≤ 9223372036854775807 := by omega
  clear g4 g3 ho hb1
  go_loopw [13] (fun k wr => ∃ i : Nat, i ≤ l.length ∧ k = .int .i64 i ∧ (∀ j, j < i → (hj : j < l.length) → (fun _ => true) l[j] = false) ∧ Below w1.heap.size w1 wr) (fun k _ => l.length - (intOf k).toNat)
  case atStart => exact ⟨0, Nat.zero_le _, rfl, fun j hj => by omega, later_refl w1⟩
  case round =>
    obtain ⟨i, hi', rfl, hno, hb⟩ := hrel
    have HNO := Lib.hid hno
    have hbw := later_trans hbw1 hb
    clear hno
    by_cases hlt : i < l.length
    · obtain ⟨bb, o, rfl, hbb, hcs⟩ := HC.out (by omega)
      obtain ⟨ha, hb2⟩ := hcs i hlt
      have ha := ((bcell hb).1 bb (o + i * 2) hbb).trans ha
      have hb2 := ((bcell hb).1 bb (o + i * 2 + 1) hbb).trans hb2
      have hsz := hb.size
      obtain ⟨p, hp'⟩ : ∃ p, l[i] = p := ⟨_, rfl⟩
      rw [hp'] at ha hb2
      have HPE := Lib.hid hp'
      clear hcs hp'
      have HYES := Lib.hid (any_at (q := (fun _ => true)) hlt (by rfl))
      go_wp2
      go_quiet (fail)
      go_wp2
      go_ret
      subst hKe
      exact ⟨ret_bool HYES.out.symm, later_trans hbw (later_trans (later_alloc wr _) (later_drewN _ _))⟩
    · have HNA := Lib.hid (any_upto (q := (fun _ => true)) (l := l) (fun j hj => HNO.out j (by omega) hj))
      go_wp2
      go_ret
      subst hKe
      exact ⟨ret_bool HNA.out.symm, hbw⟩

set_option maxRecDepth 100000 in
set_option maxHeartbeats 2000000 in
theorem refhas1_any (vb vl : Value) (pb po cp : Nat) (B : List Br) (L : List Int) (key : Int) (w : World) (hB : SlB w vb B) (hL : SlI .u64 w vl L) (hok : TrieOk B L) (hp : w.cell? ⟨pb, po, none⟩ = some (.int .u64 key)) :
    Calls Try.prog 45 #[.agg #[vb, vl], .slice (some ⟨pb, po, none⟩) 1 cp] w fun e w' => e = .returned (.bool ((runOf B L).any (fun p => p.a == key))) ∧ Below w.heap.size w w' := by
  obtain ⟨a, c, rfl, -⟩ := hB.open
  obtain ⟨a', c', rfl, -⟩ := hL.open
  have hRR := fun W (hW : Below w.heap.size w W) => refrun_any _ _ B L W (hB.later hW) (hL.later hW) hok
  have HR := Lib.hid hRR
  have HWF := Lib.hid (run_wf hB hL)
  obtain ⟨l, hl⟩ : ∃ l, runOf B L = l := ⟨_, rfl⟩
  rw [hl] at HR HWF ⊢
  have HP := Lib.hid (fun W (hW : Below w.heap.size w W) => cell_next hW hp)
  obtain ⟨W, hW⟩ : ∃ W, w.alloc (.cells #[.slice a B.length c, .slice a' L.length c'] 25) = W := ⟨_, rfl⟩
  obtain ⟨K, hKe⟩ : ∃ K, w.heap.size = K := ⟨_, rfl⟩
  have hbW : Below w.heap.size w W := by rw [← hW]; exact later_alloc w _
  have hKb : W.heap[K]? = some (.cells #[.slice a B.length c, .slice a' L.length c'] 25 (0, 0)) := by rw [← hW, ← hKe]; exact box_new w _ _
  have k0 := box_cell (i := 0) hKb
  have k1 := box_cell (i := 1) hKb
  simp at k0 k1
  clear hB hL hok hRR hl hp
  go_enter Try.func45, Try.ntmps45
  go_wp2_with (go_at_call 41; refine (HR.out _ hbW).mono ?_; rintro e w1 ⟨v1, rfl, ho, hb1⟩; have hsl := SlP.open ⟨SlT.of_owns ho, HWF.out⟩; obtain ⟨a1, c1, rfl, g1, g2, g3, g4⟩ := hsl)
  have HC := Lib.hid g4
  have hbw1 := later_trans hbW hb1
  have hlm : l.length ≤ 9223372036854775807 := by omega
  clear g4 g3 ho hb1
  go_loopw [13] (fun k wr => ∃ i : Nat, i ≤ l.length ∧ k = .int .i64 i ∧ (∀ j, j < i → (hj : j < l.length) → (fun p => p.a == key) l[j] = false) ∧ Below w1.heap.size w1 wr) (fun k _ => l.length - (intOf k).toNat)
  case atStart => exact ⟨0, Nat.zero_le _, rfl, fun j hj => by omega, later_refl w1⟩
  case round =>
    obtain ⟨i, hi', rfl, hno, hb⟩ := hrel
    have HNO := Lib.hid hno
    have hbw := later_trans hbw1 hb
    clear hno
    by_cases hlt : i < l.length
    · obtain ⟨bb, o, rfl, hbb, hcs⟩ := HC.out (by omega)
      obtain ⟨ha, hb2⟩ := hcs i hlt
      have ha := ((bcell hb).1 bb (o + i * 2) hbb).trans ha
      have hb2 := ((bcell hb).1 bb (o + i * 2 + 1) hbb).trans hb2
      have hsz := hb.size
      have hpr := HP.out wr hbw
      have hpb : pb < wr.heap.size := World.block_lt_of_cell? _ _ hpr
      obtain ⟨p, hp'⟩ : ∃ p, l[i] = p := ⟨_, rfl⟩
      rw [hp'] at ha hb2
      have HPE := Lib.hid hp'
      clear hcs hp'
      by_cases hke : p.a = key
      · have hk1 : (p.a == key) = true := beq_iff_eq.2 hke
        have HYES := Lib.hid (any_at (q := (fun p => p.a == key)) hlt (by rw [HPE.out]; exact hk1))
        go_wp2
        go_quiet (fail)
        go_wp2
        go_ret
        subst hKe
        exact ⟨ret_bool HYES.out.symm, later_trans hbw (later_trans (later_alloc wr _) (later_drewN _ _))⟩
      · have hk1 : (p.a == key) = false := beq_eq_false_iff_ne.2 hke
        have HN2 := Lib.hid (show (fun p => p.a == key) l[i] = false by rw [HPE.out]; exact hk1)
        go_wp2
        go_quiet (fail)
        go_wp2
        go_roundw
        case rel =>
          exact ⟨i + 1, by omega, by go_num, fun j hj hj2 => (if e : j = i then by subst e; exact HN2.out else HNO.out j (by omega) hj2), later_trans hb (later_trans (later_alloc wr _) (later_drewN _ _))⟩
        case measure => simp [intOf]; omega
    · have HNA := Lib.hid (any_upto (q := (fun p => p.a == key)) (l := l) (fun j hj => HNO.out j (by omega) hj))
      go_wp2
      go_ret
      subst hKe
      exact ⟨ret_bool HNA.out.symm, hbw⟩

set_option maxRecDepth 100000 in
set_option maxHeartbeats 2000000 in
theorem refhas2_any (vb vl : Value) (pb po cp : Nat) (B : List Br) (L : List Int) (key leaf : Int) (w : World) (hB : SlB w vb B) (hL : SlI .u64 w vl L) (hok : TrieOk B L) (hp : w.cell? ⟨pb, po, none⟩ = some (.int .u64 key)) (hq : w.cell? ⟨pb, po + 1, none⟩ = some (.int .u64 leaf)) :
    Calls Try.prog 45 #[.agg #[vb, vl], .slice (some ⟨pb, po, none⟩) 2 cp] w fun e w' => e = .returned (.bool ((runOf B L).any (fun p => p.a == key && p.b == leaf))) ∧ Below w.heap.size w w' := by
  obtain ⟨a, c, rfl, -⟩ := hB.open
  obtain ⟨a', c', rfl, -⟩ := hL.open
  have hRR := fun W (hW : Below w.heap.size w W) => refrun_any _ _ B L W (hB.later hW) (hL.later hW) hok
  have HR := Lib.hid hRR
  have HWF := Lib.hid (run_wf hB hL)
  obtain ⟨l, hl⟩ : ∃ l, runOf B L = l := ⟨_, rfl⟩
  rw [hl] at HR HWF ⊢
  have HP := Lib.hid (fun W (hW : Below w.heap.size w W) => cell_next hW hp)
  have HQ := Lib.hid (fun W (hW : Below w.heap.size w W) => cell_next hW hq)
  obtain ⟨W, hW⟩ : ∃ W, w.alloc (.cells #[.slice a B.length c, .slice a' L.length c'] 25) = W := ⟨_, rfl⟩
  obtain ⟨K, hKe⟩ : ∃ K, w.heap.size = K := ⟨_, rfl⟩
  have hbW : Below w.heap.size w W := by rw [← hW]; exact later_alloc w _
  have hKb : W.heap[K]? = some (.cells #[.slice a B.length c, .slice a' L.length c'] 25 (0, 0)) := by rw [← hW, ← hKe]; exact box_new w _ _
  have k0 := box_cell (i := 0) hKb
  have k1 := box_cell (i := 1) hKb
  simp at k0 k1
  clear hB hL hok hRR hl hp hq
  go_enter Try.func45, Try.ntmps45
  go_wp2_with (go_at_call 41; refine (HR.out _ hbW).mono ?_; rintro e w1 ⟨v1, rfl, ho, hb1⟩; have hsl := SlP.open ⟨SlT.of_owns ho, HWF.out⟩; obtain ⟨a1, c1, rfl, g1, g2, g3, g4⟩ := hsl)
  have HC := Lib.hid g4
  have hbw1 := later_trans hbW hb1
  have hlm : l.length ≤ 9223372036854775807 := by omega
  clear g4 g3 ho hb1
  go_loopw [13] (fun k wr => ∃ i : Nat, i ≤ l.length ∧ k = .int .i64 i ∧ (∀ j, j < i → (hj : j < l.length) → (fun p => p.a == key && p.b == leaf) l[j] = false) ∧ Below w1.heap.size w1 wr) (fun k _ => l.length - (intOf k).toNat)
  case atStart => exact ⟨0, Nat.zero_le _, rfl, fun j hj => by omega, later_refl w1⟩
  case round =>
    obtain ⟨i, hi', rfl, hno, hb⟩ := hrel
    have HNO := Lib.hid hno
    have hbw := later_trans hbw1 hb
    clear hno
    by_cases hlt : i < l.length
    · obtain ⟨bb, o, rfl, hbb, hcs⟩ := HC.out (by omega)
      obtain ⟨ha, hb2⟩ := hcs i hlt
      have ha := ((bcell hb).1 bb (o + i * 2) hbb).trans ha
      have hb2 := ((bcell hb).1 bb (o + i * 2 + 1) hbb).trans hb2
      have hsz := hb.size
      have hpr := HP.out wr hbw
      have hpb : pb < wr.heap.size := World.block_lt_of_cell? _ _ hpr
      have hqr := HQ.out wr hbw
      obtain ⟨p, hp'⟩ : ∃ p, l[i] = p := ⟨_, rfl⟩
      rw [hp'] at ha hb2
      have HPE := Lib.hid hp'
      clear hcs hp'
      by_cases hke : p.a = key
      · have hk1 : (p.a == key) = true := beq_iff_eq.2 hke
        by_cases hle : p.b = leaf
        · have hl1 : (p.b == leaf) = true := beq_iff_eq.2 hle
          have HYES := Lib.hid (any_at (q := (fun p => p.a == key && p.b == leaf)) hlt (by simp only [HPE.out, hk1, hl1, Bool.and_self]))
          go_wp2
          go_quiet (fail)
          go_wp2
          go_ret
          subst hKe
          exact ⟨ret_bool HYES.out.symm, later_trans hbw (later_trans (later_alloc wr _) (later_drewN _ _))⟩
        · have hl1 : (p.b == leaf) = false := beq_eq_false_iff_ne.2 hle
          have HN2 := Lib.hid (show (fun p => p.a == key && p.b == leaf) l[i] = false by rw [HPE.out]; simp only [hk1, hl1, Bool.and_false])
          go_wp2
          go_quiet (fail)
          go_wp2
          go_roundw
          case rel =>
            exact ⟨i + 1, by omega, by go_num, fun j hj hj2 => (if e : j = i then by subst e; exact HN2.out else HNO.out j (by omega) hj2), later_trans hb (later_trans (later_alloc wr _) (later_drewN _ _))⟩
          case measure => simp [intOf]; omega
      · have hk1 : (p.a == key) = false := beq_eq_false_iff_ne.2 hke
        have HN2 := Lib.hid (show (fun p => p.a == key && p.b == leaf) l[i] = false by rw [HPE.out]; simp only [hk1, Bool.false_and])
        go_wp2
        go_quiet (fail)
        go_wp2
        go_roundw
        case rel =>
          exact ⟨i + 1, by omega, by go_num, fun j hj hj2 => (if e : j = i then by subst e; exact HN2.out else HNO.out j (by omega) hj2), later_trans hb (later_trans (later_alloc wr _) (later_drewN _ _))⟩
        case measure => simp [intOf]; omega
    · have HNA := Lib.hid (any_upto (q := (fun p => p.a == key && p.b == leaf)) (l := l) (fun j hj => HNO.out j (by omega) hj))
      go_wp2
      go_ret
      subst hKe
      exact ⟨ret_bool HNA.out.symm, hbw⟩

theorem refhasN_any (vb vl : Value) (ap : Option Addr) (np cp : Nat) (B : List Br) (L : List Int) (w : World) (hB : SlB w vb B) (hL : SlI .u64 w vl L) (h3 : 3 ≤ np) (hnp : np ≤ 9223372036854775807) :
    Calls Try.prog 45 #[.agg #[vb, vl], .slice ap np cp] w fun e w' => e = .returned (.bool false) ∧ Below w.heap.size w w' := by
  obtain ⟨a, c, rfl, -⟩ := hB.open
  obtain ⟨a', c', rfl, -⟩ := hL.open
  have h3d : decide ((2 : Int) < (np : Int)) = true := decide_eq_true (by omega)
  have h3n : decide (2 < np) = true := decide_eq_true (by omega)
  clear hB hL
  go_enter Try.func45, Try.ntmps45
  go_wp2
  go_ret
  exact ⟨rfl, later_alloc w _⟩
end Go.Proofs.Ytdfnfdgkhflonaa
