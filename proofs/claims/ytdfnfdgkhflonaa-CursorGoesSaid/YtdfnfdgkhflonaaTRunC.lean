/-
  run.Check and the document's Right, walked.
-/
import Derived.Test.YtdfnfdgkhflonaaRows
import Derived.WalkKit
import Derived.WalkSpells
import Derived.WalkLawsBesides
import Derived.Deep.QuietTactic
import Derived.BigQuiet
import Derived.Outline
import Derived.WalkMore
import Derived.Deep.RegionHeld3
import Derived.Test.YtdfnfdgkhflonaaBase
import Derived.Test.YtdfnfdgkhflonaaBase2
import Derived.Test.YtdfnfdgkhflonaaTCmp
import Derived.Test.YtdfnfdgkhflonaaTLib
namespace Go.Proofs.Ytdfnfdgkhflonaa
open Go.RowKit
set_option linter.unusedVariables false

def Pr.no : Pr := ⟨0, 0⟩
/-- The pairs rise, up to place n. -/
def PairsTo (l : List Pr) (n : Nat) : Prop := ∀ i, 0 < i → i < n → Ahd (l.getD (i - 1) Pr.no) (l.getD i Pr.no)
/-- A run that may be. -/
def RunOk (l : List Pr) : Prop := l.length ≤ 1048576 ∧ PairsTo l l.length
theorem pairsTo_step {l : List Pr} {n : Nat} (h : PairsTo l n) (h1 : 0 < n → Ahd (l.getD (n - 1) Pr.no) (l.getD n Pr.no)) : PairsTo l (n + 1) := fun i h2 h3 => by
  by_cases e : i = n
  · subst e; exact h1 h2
  · exact h i h2 (by omega)
theorem getD_pr {l : List Pr} {i : Nat} (h : i < l.length) : l.getD i Pr.no = l[i] := by simp [List.getD, List.getElem?_eq_getElem h]

theorem wrap_i64 {x : Int} (h : -9223372036854775808 ≤ x) (h' : x ≤ 9223372036854775807) : IntKind.i64.wrap x = x := IntWalk.i64_in _ ⟨h, h'⟩
theorem cell_next {W W' : World} {p : Addr} {u : Value} (hb : Below W.heap.size W W') (h : W.cell? p = some u) : W'.cell? p = some u := (hb.cell (World.block_lt_of_cell? _ _ h)).trans h
theorem cells4_next {W W' : World} {p q r s : Addr} {u v x y : Value} (hb : Below W.heap.size W W') (h : W.cell? p = some u ∧ W.cell? q = some v ∧ W.cell? r = some x ∧ W.cell? s = some y) : W'.cell? p = some u ∧ W'.cell? q = some v ∧ W'.cell? r = some x ∧ W'.cell? s = some y :=
  ⟨cell_next hb h.1, cell_next hb h.2.1, cell_next hb h.2.2.1, cell_next hb h.2.2.2⟩

set_option maxRecDepth 100000 in
set_option maxHeartbeats 2000000 in
open Classical in
theorem runCheck_any (v : Value) (l : List Pr) (w : World) (h : SlP w v l) :
    Calls Try.prog 80 #[v] w fun e w' => e = .returned (.int .i64 (if RunOk l then 0 else 130)) ∧ Below w.heap.size w w' := by
  obtain ⟨a, c, rfl, h1, h2, h3, h4⟩ := h.open
  have HX := Lib.hid h4
  have hm : l.length ≤ 9223372036854775807 := by omega
  clear h h1 h2 h3 h4
  go_enter Try.func80, Try.ntmps80
  go_wp2
  go_step3
  go_wp2
  go_step3
  go_wp2
  go_loopw [3, 10] (fun ok k wr => ∃ i : Nat, i ≤ l.length ∧ ok = .bool (decide ((l.length : Int) ≤ 1048576)) ∧ k = .int .i64 i ∧ PairsTo l i ∧ (0 < i → (l.length : Int) ≤ 1048576) ∧ Below w.heap.size w wr) (fun _ k _ => l.length - (intOf k).toNat)
  case atStart => exact ⟨0, Nat.zero_le _, rfl, rfl, fun i h1 h2 => by omega, fun h => by omega, later_refl w⟩
  case round =>
    obtain ⟨i, hi, rfl, rfl, hp, hlen, hb⟩ := hrel
    by_cases hlt : i < l.length
    · obtain ⟨bb, o, rfl, hbw, hcs⟩ := HX.out (by omega)
      by_cases hm6 : (l.length : Int) ≤ 1048576
      · have hmd : decide ((l.length : Int) ≤ 1048576) = true := decide_eq_true hm6
        rw [hmd]
        clear hmd
        by_cases hi0 : i = 0
        · have hi0b : ((i : Int) == 0) = true := beq_iff_eq.2 (by omega)
          clear hcs
          go_wp2
          go_quiet (fail)
          go_wp2
          go_roundw
          case rel => exact ⟨i + 1, by omega, by first | rfl | rw [decide_eq_true hm6], by go_num, pairsTo_step hp (fun h => by omega), fun _ => hm6, later_trans hb (later_drewN _ _)⟩
          case measure => simp [intOf]; omega
        · obtain ⟨n, rfl⟩ : ∃ n, i = n + 1 := ⟨i - 1, by omega⟩
          have hi0b : (((n + 1 : Nat) : Int) == 0) = false := beq_eq_false_iff_ne.2 (by omega)
          have hi0c : ((n : Int) + 1 == 0) = false := beq_eq_false_iff_ne.2 (by omega)
          obtain ⟨ha0, hb0⟩ := hcs n (by omega)
          obtain ⟨ha1, hb1⟩ := hcs (n + 1) hlt
          have ha0 := ((bcell hb).1 bb (o + n * 2) hbw).trans ha0
          have hb0 := ((bcell hb).1 bb (o + n * 2 + 1) hbw).trans hb0
          have ha1 := ((bcell hb).1 bb (o + (n + 1) * 2) hbw).trans ha1
          have hb1 := ((bcell hb).1 bb (o + (n + 1) * 2 + 1) hbw).trans hb1
          have hg0 : l.getD (n + 1 - 1) Pr.no = l[n] := getD_pr (by omega)
          have hg1 : l.getD (n + 1) Pr.no = l[n + 1] := getD_pr hlt
          obtain ⟨p, hpe⟩ : ∃ p, l[n] = p := ⟨_, rfl⟩
          obtain ⟨q, hqe⟩ : ∃ q, l[n + 1] = q := ⟨_, rfl⟩
          rw [hpe] at ha0 hb0 hg0
          rw [hqe] at ha1 hb1 hg1
          have hbn : bb < wr.heap.size := Nat.lt_of_lt_of_le hbw hb.size
          have hib0 : (0 : Int) ≤ (n : Int) := by omega
          have hib1 : (n : Int) < (l.length : Int) := by omega
          have hib2 : (n : Int) + 1 < (l.length : Int) := by omega
          have hib3 : (0 : Int) ≤ (n : Int) + 1 := by omega
          have hib4 : n < l.length := by omega
          have hwr1 : IntKind.i64.wrap (n : Int) = (n : Int) := wrap_i64 (by omega) (by omega)
          clear hcs hpe hqe
          by_cases hA : Ahd p q
          · have hd : decide (cmpP p q < 0) = true := decide_eq_true ((cmpP_lt p q).2 hA)
            have HST := Lib.hid (pairsTo_step hp (fun _ => by rw [hg0, hg1]; exact hA))
            clear hp hg0 hg1 hA
            go_wp2
            go_region_held3 (fun W' => W'.cell? ⟨bb, o + n * 2, none⟩ = some (.int .u64 p.a) ∧ W'.cell? ⟨bb, o + n * 2 + 1, none⟩ = some (.int .u64 p.b) ∧ W'.cell? ⟨bb, o + (n + 1) * 2, none⟩ = some (.int .u64 q.a) ∧ W'.cell? ⟨bb, o + (n + 1) * 2 + 1, none⟩ = some (.int .u64 q.b))
              (first | exact ⟨ha0, hb0, ha1, hb1⟩ | exact cells4_next hbB (by assumption) | assumption | (go_keep; done))
              (first
                | (go_at_call 111; refine (cmpP_any p q _).mono ?_; rintro e wB ⟨rfl, hbB⟩))
            all_goals go_wp2
            all_goals go_roundw
            case rel => exact ⟨n + 1 + 1, by omega, rfl, by go_num, HST.out, fun _ => hm6, later_trans hb (later_trans (later_drew wr) hbB)⟩
            case measure => simp [intOf]; omega
          · have hd : decide (cmpP p q < 0) = false := decide_eq_false (fun h => hA ((cmpP_lt p q).1 h))
            have hno : ¬ RunOk l := fun h => hA (by have := h.2 (n + 1) (by omega) hlt; rw [hg0, hg1] at this; exact this)
            clear hp hg0 hg1 hA
            go_wp2
            go_region_held3 (fun W' => W'.cell? ⟨bb, o + n * 2, none⟩ = some (.int .u64 p.a) ∧ W'.cell? ⟨bb, o + n * 2 + 1, none⟩ = some (.int .u64 p.b) ∧ W'.cell? ⟨bb, o + (n + 1) * 2, none⟩ = some (.int .u64 q.a) ∧ W'.cell? ⟨bb, o + (n + 1) * 2 + 1, none⟩ = some (.int .u64 q.b))
              (first | exact ⟨ha0, hb0, ha1, hb1⟩ | exact cells4_next hbB (by assumption) | assumption | (go_keep; done))
              (first
                | (go_at_call 111; refine (cmpP_any p q _).mono ?_; rintro e wB ⟨rfl, hbB⟩))
            all_goals go_wp2
            all_goals rw [Exit.noGoto_ret]
            all_goals go_ret
            all_goals exact ⟨by first | (rw [if_neg hno]; done) | (rw [if_neg hno]; rfl), later_trans hb (later_trans (later_drew wr) hbB)⟩
      · have hmd : decide ((l.length : Int) ≤ 1048576) = false := decide_eq_false hm6
        have hno : ¬ RunOk l := fun h => hm6 (by have := h.1; omega)
        rw [hmd]
        clear hcs
        go_wp2
        go_quiet (fail)
        go_wp2
        rw [Exit.noGoto_ret]
        go_ret
        exact ⟨by rw [if_neg hno]; rfl, later_trans hb (later_drewN _ _)⟩
    · obtain rfl : i = l.length := by omega
      by_cases hm6 : (l.length : Int) ≤ 1048576
      · have hmd : decide ((l.length : Int) ≤ 1048576) = true := decide_eq_true hm6
        have hyes : RunOk l := ⟨by omega, hp⟩
        rw [hmd]
        go_wp2
        rw [Exit.noGoto_ret]
        go_ret
        exact ⟨by first | (rw [if_pos hyes]; done) | (rw [if_pos hyes]; rfl), hb⟩
      · exact absurd (by rcases Nat.eq_zero_or_pos l.length with h | h; omega; exact hlen h) hm6

/-- Does a pair stand ahead of another one? -/
def ahdB (p q : Pr) : Bool := decide (p.a < q.a) || (decide (p.a = q.a) && decide (p.b < q.b))
theorem ahdB_iff (p q : Pr) : ahdB p q = true ↔ Ahd p q := by simp [ahdB, Ahd]

set_option maxHeartbeats 1000000 in
theorem ahd_any (p q : Pr) (w : World) : Calls Try.prog 83 #[.agg #[.int .u64 p.a, .int .u64 p.b], .agg #[.int .u64 q.a, .int .u64 q.b]] w fun e w' => e = .returned (.bool (ahdB p q)) ∧ Below w.heap.size w w' := by
  obtain ⟨W, hW⟩ : ∃ W, (w.alloc (.cells #[.int .u64 p.a, .int .u64 p.b] 59)).alloc (.cells #[.int .u64 q.a, .int .u64 q.b] 59) = W := ⟨_, rfl⟩
  have hb : Below w.heap.size w W := by rw [← hW]; exact later_trans (later_alloc w _) (later_alloc _ _)
  have h0 : W.cell? ⟨w.heap.size, 0, none⟩ = some (.int .u64 p.a) := by rw [← hW]; simp
  have h1 : W.cell? ⟨w.heap.size, 1, none⟩ = some (.int .u64 p.b) := by rw [← hW]; simp
  have h2 : W.cell? ⟨w.heap.size + 1, 0, none⟩ = some (.int .u64 q.a) := by rw [← hW]; simp
  have h3 : W.cell? ⟨w.heap.size + 1, 1, none⟩ = some (.int .u64 q.b) := by rw [← hW]; simp
  go_enter Try.func83, Try.ntmps83
  by_cases hk : p.a < q.a
  · have hd : decide (p.a < q.a) = true := decide_eq_true hk
    have hv : ahdB p q = true := by simp [ahdB, hk]
    rw [hv]
    clear hk hv
    go_wp2
    go_ret
    first | exact ⟨rfl, hb⟩ | exact ⟨rfl, later_trans hb (later_drewN _ _)⟩
  · have hd : decide (p.a < q.a) = false := decide_eq_false hk
    by_cases he : p.a = q.a
    · have hed : (p.a == q.a) = true := beq_iff_eq.2 he
      by_cases hl : p.b < q.b
      · have hld : decide (p.b < q.b) = true := decide_eq_true hl
        have hv : ahdB p q = true := by simp [ahdB, he, hl]
        rw [hv]
        clear hk he hl hv
        go_wp2
        go_ret
        first | exact ⟨rfl, hb⟩ | exact ⟨rfl, later_trans hb (later_drewN _ _)⟩
      · have hld : decide (p.b < q.b) = false := decide_eq_false hl
        have hv : ahdB p q = false := by simp [ahdB, he, hl]
        rw [hv]
        clear hk he hl hv
        go_wp2
        go_ret
        first | exact ⟨rfl, hb⟩ | exact ⟨rfl, later_trans hb (later_drewN _ _)⟩
    · have hed : (p.a == q.a) = false := beq_eq_false_iff_ne.2 he
      have hv : ahdB p q = false := by simp [ahdB, hk, he]
      rw [hv]
      clear hk he hv
      go_wp2
      go_ret
      first | exact ⟨rfl, hb⟩ | exact ⟨rfl, later_trans hb (later_drewN _ _)⟩

set_option maxRecDepth 100000 in
set_option maxHeartbeats 2000000 in
open Classical in
theorem right3_any (v : Value) (l : List Pr) (w : World) (h : SlP w v l) :
    Calls Try.prog 38 #[v] w fun e w' => e = .returned (.bool (decide (RunOk l))) ∧ Below w.heap.size w w' := by
  obtain ⟨a, c, rfl, h1, h2, h3, h4⟩ := h.open
  have HX := Lib.hid h4
  have hm : l.length ≤ 9223372036854775807 := by omega
  clear h h1 h2 h3 h4
  go_enter Try.func38, Try.ntmps38
  go_wp2
  go_loopw [6] (fun k wr => ∃ i : Nat, i ≤ l.length ∧ k = .int .i64 i ∧ PairsTo l i ∧ Below w.heap.size w wr) (fun k _ => l.length - (intOf k).toNat)
  case atStart => exact ⟨0, Nat.zero_le _, rfl, fun i h1 h2 => by omega, later_refl w⟩
  case round =>
    obtain ⟨i, hi, rfl, hp, hb⟩ := hrel
    by_cases hlt : i < l.length
    · obtain ⟨bb, o, rfl, hbw, hcs⟩ := HX.out (by omega)
      by_cases hi0 : i = 0
      · have hi0b : decide ((0 : Int) < (i : Int)) = false := decide_eq_false (by omega)
        subst hi0
        clear hcs
        go_wp2
        go_quiet (fail)
        go_wp2
        go_roundw
        case rel => exact ⟨1, by omega, by go_num, pairsTo_step hp (fun h => by omega), later_trans hb (later_drewN _ _)⟩
        case measure => simp [intOf]; omega
      · obtain ⟨n, rfl⟩ : ∃ n, i = n + 1 := ⟨i - 1, by omega⟩
        have hi0c : decide ((0 : Int) < (n : Int) + 1) = true := decide_eq_true (by omega)
        obtain ⟨ha0, hb0⟩ := hcs n (by omega)
        obtain ⟨ha1, hb1⟩ := hcs (n + 1) hlt
        have ha0 := ((bcell hb).1 bb (o + n * 2) hbw).trans ha0
        have hb0 := ((bcell hb).1 bb (o + n * 2 + 1) hbw).trans hb0
        have ha1 := ((bcell hb).1 bb (o + (n + 1) * 2) hbw).trans ha1
        have hb1 := ((bcell hb).1 bb (o + (n + 1) * 2 + 1) hbw).trans hb1
        have hg0 : l.getD (n + 1 - 1) Pr.no = l[n] := getD_pr (by omega)
        have hg1 : l.getD (n + 1) Pr.no = l[n + 1] := getD_pr hlt
        obtain ⟨p, hpe⟩ : ∃ p, l[n] = p := ⟨_, rfl⟩
        obtain ⟨q, hqe⟩ : ∃ q, l[n + 1] = q := ⟨_, rfl⟩
        rw [hpe] at ha0 hb0 hg0
        rw [hqe] at ha1 hb1 hg1
        have hbn : bb < wr.heap.size := Nat.lt_of_lt_of_le hbw hb.size
        have hib0 : (0 : Int) ≤ (n : Int) := by omega
        have hib1 : (n : Int) < (l.length : Int) := by omega
        have hib2 : (n : Int) + 1 < (l.length : Int) := by omega
        have hib3 : (0 : Int) ≤ (n : Int) + 1 := by omega
        have hib4 : n < l.length := by omega
        have hwr1 : IntKind.i64.wrap (n : Int) = (n : Int) := wrap_i64 (by omega) (by omega)
        clear hcs hpe hqe
        by_cases hA : Ahd p q
        · have hd : ahdB p q = true := (ahdB_iff p q).2 hA
          have HST := Lib.hid (pairsTo_step hp (fun _ => by rw [hg0, hg1]; exact hA))
          clear hp hg0 hg1 hA
          go_wp2
          go_region_held3 (fun W' => W'.cell? ⟨bb, o + n * 2, none⟩ = some (.int .u64 p.a) ∧ W'.cell? ⟨bb, o + n * 2 + 1, none⟩ = some (.int .u64 p.b) ∧ W'.cell? ⟨bb, o + (n + 1) * 2, none⟩ = some (.int .u64 q.a) ∧ W'.cell? ⟨bb, o + (n + 1) * 2 + 1, none⟩ = some (.int .u64 q.b))
            (first | exact ⟨ha0, hb0, ha1, hb1⟩ | exact cells4_next hbB (by assumption) | assumption | (go_keep; done))
            (first
              | (go_at_call 83; refine (ahd_any p q _).mono ?_; rintro e wB ⟨rfl, hbB⟩))
          all_goals go_wp2
          all_goals go_roundw
          case rel => exact ⟨n + 1 + 1, by omega, by go_num, HST.out, later_trans hb (later_trans (later_drew wr) hbB)⟩
          case measure => simp [intOf]; omega
        · have hd : ahdB p q = false := by rw [← Bool.not_eq_true]; exact fun h => hA ((ahdB_iff p q).1 h)
          have hno : ¬ RunOk l := fun h => hA (by have := h.2 (n + 1) (by omega) hlt; rw [hg0, hg1] at this; exact this)
          have hnod := decide_eq_false hno
          have HNO := Lib.hid hnod
          clear hp hg0 hg1 hA hnod hno
          go_wp2
          go_region_held3 (fun W' => W'.cell? ⟨bb, o + n * 2, none⟩ = some (.int .u64 p.a) ∧ W'.cell? ⟨bb, o + n * 2 + 1, none⟩ = some (.int .u64 p.b) ∧ W'.cell? ⟨bb, o + (n + 1) * 2, none⟩ = some (.int .u64 q.a) ∧ W'.cell? ⟨bb, o + (n + 1) * 2 + 1, none⟩ = some (.int .u64 q.b))
            (first | exact ⟨ha0, hb0, ha1, hb1⟩ | exact cells4_next hbB (by assumption) | assumption | (go_keep; done))
            (first
              | (go_at_call 83; refine (ahd_any p q _).mono ?_; rintro e wB ⟨rfl, hbB⟩))
          all_goals go_wp2
          all_goals go_ret
          all_goals exact ⟨by rw [HNO.out]; rfl, later_trans hb (later_trans (later_drew wr) hbB)⟩
    · obtain rfl : i = l.length := by omega
      by_cases hm6 : (l.length : Int) ≤ 1048576
      · have hmd : decide ((l.length : Int) ≤ 1048576) = true := decide_eq_true hm6
        have hyes : RunOk l := ⟨by omega, hp⟩
        have HNO := Lib.hid (decide_eq_true hyes)
        clear hyes
        go_wp2
        go_ret
        exact ⟨by rw [HNO.out]; rfl, hb⟩
      · have hmd : decide ((l.length : Int) ≤ 1048576) = false := decide_eq_false hm6
        have hno : ¬ RunOk l := fun h => hm6 (by have := h.1; omega)
        have HNO := Lib.hid (decide_eq_false hno)
        clear hno
        go_wp2
        go_ret
        exact ⟨by rw [HNO.out]; rfl, hb⟩

set_option maxHeartbeats 1000000 in
theorem few_any (v : Value) (l : List Pr) (w : World) (h : SlP w v l) :
    Calls Try.prog 35 #[v] w fun e w' => ∃ v', e = .returned v' ∧ w'.ownsRow w.heap.size 59 2 v' (l.take (min l.length 40)).length ((l.take (min l.length 40)).flatMap Pr.cells) ∧ Below w.heap.size w w' := by
  obtain ⟨a, c, rfl, h1, h2, h3, h4⟩ := h.open
  obtain ⟨m, hm⟩ : ∃ m, min l.length 40 = m := ⟨_, rfl⟩
  have hmin : Value.int .i64 (if (40 : Int) < l.length then (40 : Int) else (l.length : Int)) = .int .i64 (m : Int) := by rw [show (if (40 : Int) < l.length then (40 : Int) else (l.length : Int)) = (m : Int) from by split <;> omega]
  have hmc : m ≤ c := by omega
  have HC := Lib.hid (clone_pair _ _ w (h.cut (show m ≤ l.length by omega)) (by simp; omega))
  rw [hm]
  clear h h1 h2 h3 h4 hm
  go_enter Try.func35, Try.ntmps35
  go_wp2_with (go_at_call 79; (try simp only [hmin]); refine HC.out.mono ?_; rintro e w' ⟨v', rfl, ho, hb⟩)
  go_ret
  exact ⟨_, rfl, ho, hb⟩
end Go.Proofs.Ytdfnfdgkhflonaa
