/-
  wide.Power, walked.
-/
import Derived.Test.YtdmfhlfhlflakaaDoorWiOps2
namespace Go.Proofs.YtdmfhlfhlflakaaDoor
open Go.RowKit Go.Lib Go.Shelf
set_option linter.unusedVariables false

/-- What the loop of Power keeps. -/
structure PowW (w : World) (xn xa n a j : Nat) (W : World) : Prop where
  wr : Wrote (fun b => b = xn) w W
  bn : W.heap[xn]? = some (.cells #[.int .i64 ((n - j : Nat) : Int)] 3 (0, 0))
  ba : WB W xa a
  br : W.heap[w.heap.size]? = some (.cells #[.int .u64 0, .int .u64 0] 35 (0, 0))
  bo : WB W (w.heap.size + 1) (a ^ j)
  lt : a ^ j < 340282366920938463463374607431768211456
  le : j ≤ n
theorem PowW.later {w : World} {xn xa n a j : Nat} {W W' : World} (h : PowW w xn xa n a j W) (hb : Below W.heap.size W W') : PowW w xn xa n a j W' :=
  ⟨h.wr.trans (.of_below hb), (hb.block _ (lt_of_block h.bn)).trans h.bn, h.ba.later hb, (hb.block _ (lt_of_block h.br)).trans h.br, h.bo.later hb, h.lt, h.le⟩

theorem wrote_new {S : Nat → Prop} {w w' : World} {b i : Nat} {u : Value} (h : Wrote S w w') (hb : w.heap.size ≤ b) : Wrote S w (w'.setCell ⟨b, i, none⟩ u) :=
  ⟨h.os, h.tape, h.output, by have := h.size; simpa using this, fun c hc hS => (Below.heap_setCell _ _ _ _ (fun e => by have e1 : c = b := e; omega)).trans (h.block c hc hS)⟩
theorem PowW.step {w : World} {xn xa n a j : Nat} {W : World} (h : PowW w xn xa n a j W) (hx : xn < w.heap.size) (hxa : xa < w.heap.size) (hne : xn ≠ xa) (hj : j < n) (hl : a ^ (j + 1) < 340282366920938463463374607431768211456) :
    PowW w xn xa n a (j + 1) (((W.setCell ⟨w.heap.size + 1, 0, none⟩ (.int .u64 ((a ^ (j + 1) / 18446744073709551616 : Nat) : Int))).setCell ⟨w.heap.size + 1, 1, none⟩ (.int .u64 ((a ^ (j + 1) % 18446744073709551616 : Nat) : Int))).setCell ⟨xn, 0, none⟩ (.int .i64 ((n - j : Nat) - 1 : Int))) := by
  have e : ((n - j : Nat) : Int) - 1 = ((n - (j + 1) : Nat) : Int) := by omega
  rw [e]
  refine ⟨(wrote_new (wrote_new h.wr (by omega)) (by omega)).set rfl _, ?_, ?_, ?_, ?_, hl, by omega⟩
  · have := box_set (i := 0) (box_other (i := 1) (b' := w.heap.size + 1) (box_other (i := 0) (b' := w.heap.size + 1) h.bn (by omega) (.int .u64 ((a ^ (j + 1) / 18446744073709551616 : Nat) : Int))) (by omega) (.int .u64 ((a ^ (j + 1) % 18446744073709551616 : Nat) : Int))) (.int .i64 ((n - (j + 1) : Nat) : Int))
    simpa using this
  · exact box_other (box_other (box_other h.ba (by omega) _) (by omega) _) (by omega) _
  · exact box_other (box_other (box_other h.br (by omega) _) (by omega) _) (by omega) _
  · have := box_other (i := 0) (b' := xn) (box_set (i := 1) (box_set (i := 0) h.bo (.int .u64 ((a ^ (j + 1) / 18446744073709551616 : Nat) : Int))) (.int .u64 ((a ^ (j + 1) % 18446744073709551616 : Nat) : Int))) (by omega) (.int .i64 ((n - (j + 1) : Nat) : Int))
    unfold WB
    simpa using this
set_option maxRecDepth 100000 in
set_option maxHeartbeats 2000000 in
theorem pow1_any {xn xa n a : Nat} {w : World} (hO : One w) (ha : a < 340282366920938463463374607431768211456) (hn : n ≤ 9223372036854775807) (hxn : w.heap[xn]? = some (.cells #[.int .i64 (n : Int)] 3 (0, 0))) (hxa : WB w xa a) (hdec : ∀ j, j < n → ¬ a ^ (j + 1) < 340282366920938463463374607431768211456 → ¬ a ^ n < 340282366920938463463374607431768211456) :
    Calls Tryd.prog 76 #[.pointer (some ⟨xn, 0, none⟩), .pointer (some ⟨xa, 0, none⟩)] w fun e w' => e = (if a ^ n < 340282366920938463463374607431768211456 then .returned (wv (a ^ n)) else .panicked ovf) ∧ Wrote (fun b => b = xn) w w' := by
  have o0 := hO.c0
  have o1 := hO.c1
  have lx := lt_of_block hxn
  have la := lt_of_block hxa
  have hne : xn ≠ xa := fun e => by subst e; unfold WB at hxa; rw [hxa] at hxn; cases hxn
  have l0 := World.block_lt_of_cell? _ _ o0
  have HX := Lib.hid (And.intro hxn (And.intro hxa hdec))
  clear hxn hxa hdec hO
  go_enter Tryd.func76, Tryd.ntmps76
  go_wp2_with fail
  refine wp_scope_again 0 (fun μ a' w' => ∃ j : Nat, μ = n - j ∧ PowW w xn xa n a j w' ∧ ∃ (u4 u5 u6 u7 u8 u9 u10 u11 u12 : Value), a' = { tmps := #[.pointer (some ⟨xn, 0, none⟩), .pointer (some ⟨xa, 0, none⟩), .pointer (some ⟨w.heap.size, 0, none⟩), .pointer (some ⟨w.heap.size + 1, 0, none⟩), u4, u5, u6, u7, u8, u9, u10, u11, u12], defers := [] }) rfl ?pass (fun again => ?first)
  case first =>
    go_wp2
    apply wp_label
    rename_i hK
    refine hK _ _ (again _ _ _ ⟨0, rfl, ⟨.of_below (later_trans (later_alloc w _) (later_alloc _ _)), ?_, ?_, ?_, ?_, ?_, Nat.zero_le _⟩, _, _, _, _, _, _, _, _, _, rfl⟩)
    · exact box_alloc (box_alloc HX.out.1 _) _
    · exact box_alloc (box_alloc HX.out.2.1 _) _
    · exact box_alloc (box_new w _ _) _
    · have h := box_new (w.alloc (.cells #[.int .u64 0, .int .u64 0] 35)) #[.int .u64 0, .int .u64 1] 35
      rw [World.size_alloc] at h
      unfold WB
      rw [Nat.pow_zero]
      exact h
    · rw [Nat.pow_zero]; decide
  case pass =>
    rintro μ a' W ⟨j, rfl, hI, u4, u5, u6, u7, u8, u9, u10, u11, u12, rfl⟩
    obtain ⟨k, hk⟩ : ∃ k, n - j = k := ⟨_, rfl⟩
    obtain ⟨oh, hoh⟩ : ∃ oh, a ^ j / 18446744073709551616 = oh := ⟨_, rfl⟩
    obtain ⟨ol, hol⟩ : ∃ ol, a ^ j % 18446744073709551616 = ol := ⟨_, rfl⟩
    obtain ⟨ah, hah⟩ : ∃ ah, a / 18446744073709551616 = ah := ⟨_, rfl⟩
    obtain ⟨al, hal⟩ : ∃ al, a % 18446744073709551616 = al := ⟨_, rfl⟩
    obtain ⟨sh, hsh⟩ : ∃ sh, a ^ (j + 1) / 18446744073709551616 = sh := ⟨_, rfl⟩
    obtain ⟨sl, hsl⟩ : ∃ sl, a ^ (j + 1) % 18446744073709551616 = sl := ⟨_, rfl⟩
    have HI := Lib.hid hI
    have bn := hI.bn
    have ba := hI.ba
    have br := hI.br
    have bo := hI.bo
    have hsz := hI.wr.size
    unfold WB at ba bo
    rw [hk] at bn
    rw [hah, hal] at ba
    rw [hoh, hol] at bo
    have cn : W.cell? ⟨xn, 0, none⟩ = some (.int .i64 (k : Int)) := by simpa using box_cell (i := 0) bn
    have ca0 : W.cell? ⟨xa, 0, none⟩ = some (.int .u64 (ah : Int)) := by simpa using box_cell (i := 0) ba
    have ca1 : W.cell? ⟨xa, 1, none⟩ = some (.int .u64 (al : Int)) := by simpa using box_cell (i := 1) ba
    have co0 : W.cell? ⟨w.heap.size + 1, 0, none⟩ = some (.int .u64 (oh : Int)) := by simpa using box_cell (i := 0) bo
    have co1 : W.cell? ⟨w.heap.size + 1, 1, none⟩ = some (.int .u64 (ol : Int)) := by simpa using box_cell (i := 1) bo
    by_cases hj : j < n
    · have h0 : (0 : Int) < k := by omega
      have hkn : (k : Int) ≤ 9223372036854775807 := by omega
      have hT := fun w => times_any (a ^ j) a hI.lt ha w
      rw [← Nat.pow_succ] at hT
      by_cases hl : a ^ (j + 1) < 340282366920938463463374607431768211456
      · simp only [if_pos hl] at hT
        unfold wv at hT
        rw [hoh, hol, hah, hal, hsh, hsl] at hT
        have HG := Lib.hid (And.intro hk (And.intro hsh (And.intro hsl (And.intro hj hl))))
        clear hI bn ba br bo hk hoh hol hah hal hsh hsl hl hj ha
        go_wp2_with fail
        refine (hT _).mono ?_
        rintro e W1 ⟨rfl, hb1⟩
        have H1 := Lib.hid (HI.out.later hb1)
        have bo1 := H1.out.bo
        have bn1 := H1.out.bn
        unfold WB at bo1
        have co0' := box_cell (i := 0) bo1
        have co1' := box_cell (i := 1) bo1
        have fo0 := box_frozen (i := 0) bo1
        have fo1 := box_frozen (i := 1) bo1
        have fn := box_frozen (i := 0) bn1
        have cn1 := box_cell (i := 0) bn1
        rw [HG.out.1] at cn1
        simp at co0' co1' cn1
        have hxo : ¬ xn = w.heap.size + 1 := by omega
        have hxo' : ¬ w.heap.size + 1 = xn := by omega
        have hsz1 := hb1.size
        clear hb1 bo1 bn1
        go_wp2_with fail
        apply wp_goto
        have HS := PowW.step H1.out lx la hne HG.out.2.2.2.1 HG.out.2.2.2.2
        rw [HG.out.2.1, HG.out.2.2.1, HG.out.1] at HS
        exact ⟨rfl, n - (j + 1), by have := HG.out.2.2.2.1; omega, j + 1, rfl, HS, _, _, _, _, _, _, _, _, _, rfl⟩
      · have hno := HX.out.2.2 j hj hl
        simp only [if_neg hl] at hT
        unfold wv at hT
        rw [hoh, hol, hah, hal] at hT
        have HG := Lib.hid (And.intro hno hI)
        clear hI bn ba br bo hk hoh hol hah hal hsh hsl hl hj ha hno
        go_wp2_with fail
        refine (hT _).mono ?_
        rintro e W1 ⟨rfl, hb1⟩
        exact ⟨rfl, by rw [if_neg HG.out.1], HG.out.2.wr.trans (.of_below hb1)⟩
    · obtain rfl : j = n := by have := hI.le; omega
      obtain rfl : k = 0 := by omega
      have fr0 := box_frozen (i := 0) br
      have fr1 := box_frozen (i := 1) br
      have cr0 := box_cell (i := 0) br
      have cr1 := box_cell (i := 1) br
      simp at cr0 cr1
      have HR := Lib.hid (And.intro hI.lt (And.intro hoh hol))
      clear hI bn ba br bo hk hoh hol hah hal hsh hsl hj ha
      go_wp2_with fail
      simp only [Exit.jump]
      refine bodyPost_ret (v := .agg #[.int .u64 oh, .int .u64 ol]) (by simp [results, Tryd.results76, go_sem, cr0, cr1]) rfl ?_
      exact ⟨by rw [if_pos HR.out.1]; unfold wv; rw [HR.out.2.1, HR.out.2.2], wrote_new (wrote_new HI.out.wr (by omega)) (by omega)⟩

theorem kept {W w1 : World} {b : Nat} {o : Obj} (hb : Below W.heap.size W w1) (h : W.heap[b]? = some o) : w1.heap[b]? = some o := (hb.block _ (lt_of_block h)).trans h
theorem pow_dec {a : Nat} (h2 : 1 ≤ a) {n j : Nat} (hj : j < n) (h : ¬ a ^ (j + 1) < 340282366920938463463374607431768211456) : ¬ a ^ n < 340282366920938463463374607431768211456 := by
  have := Nat.pow_le_pow_right h2 (show j + 1 ≤ n by omega)
  omega
theorem pow2_any {xn xa n a : Nat} {w : World} (hO : One w) (h1 : 1 ≤ a) (ha : a < 340282366920938463463374607431768211456) (hn : n ≤ 9223372036854775807) (hxn : w.heap[xn]? = some (.cells #[.int .i64 (n : Int)] 3 (0, 0))) (hxa : WB w xa a) :
    Calls Tryd.prog 75 #[.func (.func 76) #[] #[.pointer (some ⟨xn, 0, none⟩), .pointer (some ⟨xa, 0, none⟩)]] w fun e w' => e = .returned (wres (a ^ n)) ∧ Wrote (fun b => b = xn) w w' := by
  have hE : Enters 76 := enters_of Tryd.func76 (by kernel_rfl) rfl
  have hb := chkW_below w
  refine (checked_any (P := fun w2 => Wrote (fun b => b = xn) (chkW w) w2) hE ((pow1_any (hO.later hb) ha hn (kept hb hxn) (hxa.later hb) (fun j hj h => pow_dec h1 hj h)).mono fun e w2 h => ⟨h.1, h.2, ?_, ?_⟩)).mono ?_
  · refine (h.2.block w.heap.size (by simp [chkW]; omega) (by have := lt_of_block hxn; omega)).trans ?_
    exact box_alloc (box_new w _ _) _
  · refine (h.2.block (w.heap.size + 1) (by simp [chkW]) (by have := lt_of_block hxn; omega)).trans ?_
    have h := box_new (w.alloc (.cells #[.int .u64 0, .int .u64 0] 35)) #[.int .i64 0] 36
    rw [World.size_alloc] at h
    exact h
  · rintro e w' ⟨rfl, w2, h1, h2⟩
    have hs : w.heap.size ≤ (chkW w).heap.size := hb.size
    exact ⟨rfl, h2.os.trans (h1.os.trans hb.os), h2.tape.trans (h1.tape.trans hb.tape), h2.output.trans (h1.output.trans hb.output), Nat.le_trans hb.size (Nat.le_trans h1.size h2.size), fun b hlt hS => (h2.block b hlt).trans ((h1.block b (by omega) hS).trans (hb.block b hlt))⟩

set_option maxRecDepth 100000 in
set_option maxHeartbeats 2000000 in
theorem pow_big (a n : Nat) (h2 : 2 ≤ a) (ha : a < 340282366920938463463374607431768211456) (hn : n ≤ 9223372036854775807) (w : World) (hO : One w) :
    Calls Tryd.prog 33 #[wv a, .int .i64 n] w fun e w' => e = .returned (wres (a ^ n)) ∧ Below w.heap.size w w' := by
  have hC := fun w => Compare_any a 1 ha (by decide) w
  rw [cmpI_gt (by omega)] at hC
  rw [show wv 1 = .agg #[.int .u64 0, .int .u64 1] from rfl] at hC
  have hP := fun w hO xn xa hxn hxa => pow2_any (xn := xn) (xa := xa) (w := w) hO (by omega) ha hn hxn hxa
  obtain ⟨h, l, e, hr⟩ := wres_open (a ^ n)
  rw [hr] at hP ⊢
  unfold WB at hP
  unfold wv at hC ⊢
  generalize a / 18446744073709551616 = ah at *
  generalize a % 18446744073709551616 = al at *
  have o0 := hO.c0
  have o1 := hO.c1
  have l0 := World.block_lt_of_cell? _ _ o0
  have H := Lib.hid (And.intro hP hO)
  clear hP hO hr ha h2
  go_enter Tryd.func33, Tryd.ntmps33
  go_wp2_with fail
  refine (hC _).mono ?_
  rintro e w1 ⟨rfl, hb1⟩
  have bA := kept hb1 (box_alloc (box_alloc (box_new w #[.int .u64 (ah : Int), .int .u64 (al : Int)] 35) (.cells #[.int .i64 (n : Int)] 3)) (.cells #[.int .u64 0, .int .u64 0] 35))
  have bN := box_new (w.alloc (.cells #[.int .u64 (ah : Int), .int .u64 (al : Int)] 35)) #[.int .i64 (n : Int)] 3
  rw [World.size_alloc] at bN
  have bN := kept hb1 (box_alloc bN (.cells #[.int .u64 0, .int .u64 0] 35))
  have bR := new_kept hb1
  rw [World.size_alloc, World.size_alloc] at bR
  have hO1 := H.out.2.later (later_trans (later_alloc w _) (later_trans (later_alloc _ _) (below_new hb1)))
  have HB := Lib.hid (later_trans (later_alloc w _) (later_trans (later_alloc _ _) (below_new hb1)))
  clear hb1
  go_wp2_with fail
  refine (H.out.1 _ hO1 _ _ bN bA).mono ?_
  rintro e w2 ⟨rfl, hW⟩
  have bR2 := (hW.block _ (lt_of_block bR) (by omega)).trans bR
  have r0 := box_cell (i := 0) bR2
  have r1 := box_cell (i := 1) bR2
  have f0 := box_frozen (i := 0) bR2
  have f1 := box_frozen (i := 1) bR2
  simp at r0 r1
  have HB2 := Lib.hid (HB.out.trans (hW.below (B := w.heap.size) (fun b e => by omega) HB.out.size))
  clear bA bN bR hO1 hW bR2
  go_wp2_with fail
  refine bodyPost_ret (v := .tuple #[.agg #[.int .u64 h, .int .u64 l], .int .i64 e]) (by simp [results, Tryd.results33, go_sem, r0, r1]) rfl ?_
  exact ⟨rfl, below_set (below_set HB2.out (by omega)) (by omega)⟩

set_option maxRecDepth 100000 in
set_option maxHeartbeats 2000000 in
theorem pow_small (a n : Nat) (h2 : a < 2) (hn : n ≤ 9223372036854775807) (w : World) (hO : One w) :
    Calls Tryd.prog 33 #[wv a, .int .i64 n] w fun e w' => e = .returned (wres (a ^ n)) ∧ Below w.heap.size w w' := by
  have hC := fun w => Compare_any a 1 (by omega) (by decide) w
  have hle : cmpI a 1 ≤ 0 := by
    by_cases h : a = 1
    · rw [cmpI_eq (by omega)]; decide
    · rw [cmpI_lt (by omega)]; decide
  rw [show wv 1 = .agg #[.int .u64 0, .int .u64 1] from rfl] at hC
  have hr : wres (a ^ n) = .tuple #[.agg #[.int .u64 0, .int .u64 ((a ^ n : Nat) : Int)], .int .i64 0] := by
    have : a ^ n = 0 ∨ a ^ n = 1 := by
      rcases (show a = 0 ∨ a = 1 by omega) with rfl | rfl
      · cases n with
        | zero => right; rfl
        | succ n => left; exact Nat.zero_pow (by omega)
      · right; exact Nat.one_pow n
    rcases this with h | h <;> rw [h] <;> rfl
  have hw : wv a = .agg #[.int .u64 0, .int .u64 (a : Int)] := by
    rcases (show a = 0 ∨ a = 1 by omega) with rfl | rfl <;> rfl
  rw [hw] at hC ⊢
  rw [hr]
  have o0 := hO.c0
  have o1 := hO.c1
  have l0 := World.block_lt_of_cell? _ _ o0
  have H := Lib.hid hO
  have HN : Hid (n = 0 → a ^ n = 1) := Lib.hid (fun e => by rw [e]; rfl)
  have HN2 : Hid (n ≠ 0 → a ^ n = a) := Lib.hid (fun e => by
    rcases (show a = 0 ∨ a = 1 by omega) with rfl | rfl
    · exact Nat.zero_pow (by omega)
    · exact Nat.one_pow n)
  generalize cmpI a 1 = q at hC hle
  clear hO hr h2 hw
  by_cases hn0 : n = 0
  · have e1 := HN.out hn0
    rw [e1]
    have hn1 : ((n : Int) == 0) = true := by rw [hn0]; rfl
    clear HN HN2 hn0 e1
    go_enter Tryd.func33, Tryd.ntmps33
    go_wp2_with fail
    refine (hC _).mono ?_
    rintro e w1 ⟨rfl, hb1⟩
    have bA := kept hb1 (box_alloc (box_alloc (box_new w #[.int .u64 0, .int .u64 (a : Int)] 35) (.cells #[.int .i64 (n : Int)] 3)) (.cells #[.int .u64 0, .int .u64 0] 35))
    have bN := box_new (w.alloc (.cells #[.int .u64 0, .int .u64 (a : Int)] 35)) #[.int .i64 (n : Int)] 3
    rw [World.size_alloc] at bN
    have bN := kept hb1 (box_alloc bN (.cells #[.int .u64 0, .int .u64 0] 35))
    have bR := new_kept hb1
    rw [World.size_alloc, World.size_alloc] at bR
    have hO1 := H.out.later (later_trans (later_alloc w _) (later_trans (later_alloc _ _) (below_new hb1)))
    have HB := Lib.hid (later_trans (later_alloc w _) (later_trans (later_alloc _ _) (below_new hb1)))
    have p0 := hO1.c0
    have p1 := hO1.c1
    have a0 := box_cell (i := 0) bA
    have a1 := box_cell (i := 1) bA
    have n0 := box_cell (i := 0) bN
    have r0 := box_cell (i := 0) bR
    have r1 := box_cell (i := 1) bR
    have fa0 := box_frozen (i := 0) bA
    have fa1 := box_frozen (i := 1) bA
    have fr0 := box_frozen (i := 0) bR
    have fr1 := box_frozen (i := 1) bR
    simp at a0 a1 n0 r0 r1
    clear hb1 bA bN bR hO1
    go_wp2_with fail
    refine bodyPost_ret (v := .tuple #[.agg #[.int .u64 0, .int .u64 1], .int .i64 0]) (by simp [results, Tryd.results33, go_sem, r0, r1]) rfl ?_
    exact ⟨rfl, below_set (below_set (below_set (below_set HB.out (by omega)) (by omega)) (by omega)) (by omega)⟩
  · have e1 := HN2.out hn0
    rw [e1]
    have hn1 : ((n : Int) == 0) = false := by rw [beq_eq_false_iff_ne]; omega
    clear HN HN2 hn0 e1
    go_enter Tryd.func33, Tryd.ntmps33
    go_wp2_with fail
    refine (hC _).mono ?_
    rintro e w1 ⟨rfl, hb1⟩
    have bA := kept hb1 (box_alloc (box_alloc (box_new w #[.int .u64 0, .int .u64 (a : Int)] 35) (.cells #[.int .i64 (n : Int)] 3)) (.cells #[.int .u64 0, .int .u64 0] 35))
    have bN := box_new (w.alloc (.cells #[.int .u64 0, .int .u64 (a : Int)] 35)) #[.int .i64 (n : Int)] 3
    rw [World.size_alloc] at bN
    have bN := kept hb1 (box_alloc bN (.cells #[.int .u64 0, .int .u64 0] 35))
    have bR := new_kept hb1
    rw [World.size_alloc, World.size_alloc] at bR
    have hO1 := H.out.later (later_trans (later_alloc w _) (later_trans (later_alloc _ _) (below_new hb1)))
    have HB := Lib.hid (later_trans (later_alloc w _) (later_trans (later_alloc _ _) (below_new hb1)))
    have p0 := hO1.c0
    have p1 := hO1.c1
    have a0 := box_cell (i := 0) bA
    have a1 := box_cell (i := 1) bA
    have n0 := box_cell (i := 0) bN
    have r0 := box_cell (i := 0) bR
    have r1 := box_cell (i := 1) bR
    have fa0 := box_frozen (i := 0) bA
    have fa1 := box_frozen (i := 1) bA
    have fr0 := box_frozen (i := 0) bR
    have fr1 := box_frozen (i := 1) bR
    simp at a0 a1 n0 r0 r1
    clear hb1 bA bN bR hO1
    go_wp2_with fail
    refine bodyPost_ret (v := .tuple #[.agg #[.int .u64 0, .int .u64 (a : Int)], .int .i64 0]) (by simp [results, Tryd.results33, go_sem, r0, r1]) rfl ?_
    exact ⟨rfl, below_set (below_set HB.out (by omega)) (by omega)⟩

/-- wide.Power. -/
theorem Power_any (a n : Nat) (ha : a < 340282366920938463463374607431768211456) (hn : n ≤ 9223372036854775807) (w : World) (hO : One w) :
    Calls Tryd.prog 33 #[wv a, .int .i64 n] w fun e w' => e = .returned (wres (a ^ n)) ∧ Below w.heap.size w w' := by
  by_cases h : 2 ≤ a
  · exact pow_big a n h ha hn w hO
  · exact pow_small a n (by omega) hn w hO
end Go.Proofs.YtdmfhlfhlflakaaDoor
