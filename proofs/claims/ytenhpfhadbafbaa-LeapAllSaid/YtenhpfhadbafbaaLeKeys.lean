/-
  The iterator over the common keys, walked.
-/
import Derived.Test.YtenhpfhadbafbaaRows
import Derived.RegionIn
import Derived.Deep.QuietTactic
import Derived.BigQuiet
import Derived.Outline
import Derived.Laws.EntriesVeiled
import Derived.WalkSpells
import Derived.Sort.BigQuietIn
import Derived.Test.YtenhpfhadbafbaaLeRange
import Derived.Test.YtenhpfhadbafbaaLeCom
namespace Go.Proofs.Ytenhpfhadbafbaa
open Go.RowKit Go.Shelf Go.BigFrame
set_option linter.unusedVariables false
attribute [local go_sem] Oper.semAt_some

/-- What the body keeps of the iterator's blocks. -/
def KK (n0 X g K : Nat) (A C : World) : Prop := Below n0 A C ∧ (∀ o, A.heap[X]? = some o → C.heap[X]? = some o) ∧ (∀ o, A.heap[g]? = some o → C.heap[g]? = some o) ∧ (∀ o, A.heap[K]? = some o → C.heap[K]? = some o)
theorem KK.trans {n0 X g K : Nat} {A B C : World} (h : KK n0 X g K A B) (k : KK n0 X g K B C) : KK n0 X g K A C := ⟨h.1.trans k.1, fun o e => k.2.1 o (h.2.1 o e), fun o e => k.2.2.1 o (h.2.2.1 o e), fun o e => k.2.2.2 o (h.2.2.2 o e)⟩
theorem KK.later {n0 X g K : Nat} {A C : World} (h : Below A.heap.size A C) (hn : n0 ≤ A.heap.size) : KK n0 X g K A C :=
  ⟨h.mono hn, fun o e => (h.block _ (lt_of_block e)).trans e, fun o e => (h.block _ (lt_of_block e)).trans e, fun o e => (h.block _ (lt_of_block e)).trans e⟩
theorem Lp.kept {w0 w w' : World} {X g cap : Nat} {v : Value} {ls : List (List Int)} {ats : List Nat} {looks : Int} {K : Nat} (h : Lp w0 w X g cap v ls ats looks) (hk : KK w0.heap.size X g K w w') : Lp w0 w' X g cap v ls ats looks := by
  refine ⟨h.rows, h.bel.trans hk.1, hk.2.1 _ h.box, ?_, h.low⟩
  obtain ⟨k1, k2⟩ := h.own
  refine ⟨k1, ?_⟩
  rcases k2 with k2 | ⟨g', cap', cur, hv, hgb, hh, rest⟩
  · exact .inl k2
  · cases hv
    exact .inr ⟨g, cap, cur, rfl, hgb, hk.2.2.1 _ hh, rest⟩
/-- A told key. -/
def encK (x : Int) : Array Value := #[.int .u64 x]
/-- Where the first row's place stands. -/
def atOf (w : World) (g : Nat) : Nat := match w.cell? ⟨g, 0, none⟩ with | some (.int _ n) => n.toNat | _ => 0
theorem atOf_is {w0 w : World} {X g cap : Nat} {v : Value} {ls : List (List Int)} {ats : List Nat} {looks : Int} (h : Lp w0 w X g cap v ls ats looks) (h0 : 0 < ls.length) : atOf w g = atN ats 0 := by
  have := (h.at_ h0).1
  unfold atOf
  rw [this]
  simp
/-- What stands behind the iterator. -/
def KeysZ (w0 : World) (X g cap : Nat) (v : Value) (ls : List (List Int)) (looks0 : Int) (m : Nat) (W : World) : Prop :=
  ∃ (ats : List Nat) (n T : Nat), Lp w0 W X g cap v ls ats (looks0 + n) ∧ n ≤ (2 + 2 * lg (1 + m : Int)) * T ∧ ∀ j, j < ls.length → T ≤ ls.length * (2 * ((rowN ls j).length + 1))

theorem common_end {ls : List (List Int)} {a : List Nat} (h : (rowN ls 0).length ≤ atN a 0) : commonFrom ls a = [] := by
  unfold commonFrom
  rw [List.drop_of_length_le h]
  rfl
/-- Behind the last operation that turns the world, the region goes on in the order that it is written. -/
theorem wpAnyIn_quiet_rest {F : Fence} {n : Nat} {P : Program} {L : List Oper} {fuel : Nat} {listed : Array Bool} {a : Act} {w : World} {Q' : Exit → Act → World → Prop} (hro : F.round = none) (k : Nat) (l : List Oper) (hl : L.drop k = l) (hf : l.length = fuel) (hs : Region.noSelect L.toArray = true) (hB : Region.lexFrom .any L.toArray l.length k listed = true)
    (h : wpQuietIn F n P L.toArray (fun w' => ∃ m, w' = w.drewN m) (fun a' => ∀ w', (∃ m, w' = w.drewN m) → Q' .normal a' w') l a) : wpAnyIn F n P .any L.toArray Q' fuel listed a w := by
  subst hl; subst hf
  refine wpAnyIn_of_quiet (C := fun w' => ∃ m, w' = w.drewN m) (Q := fun a' => ∀ w', (∃ m, w' = w.drewN m) → Q' .normal a' w') hro (fun a' w' hw' h => h w' hw') _ _ _ _ ⟨0, rfl⟩ (wpAnyQIn_lex hs _ k _ _ (fun j => ?_) hB h)
  simp

set_option maxRecDepth 100000 in
set_option maxHeartbeats 8000000 in
theorem keys_stops (n : Nat) (hn : 1 ≤ n) {w0 w : World} {X g cap K : Nat} {v : Value} {ls : List (List Int)} {a0 : List Nat} {looks0 : Int} {m : Nat} (h : Lp w0 w X g cap v ls a0 looks0) (hR : RowsOk ls) (hm : ∀ r, r < ls.length → (rowN ls r).length ≤ m) (hm1 : m ≤ 1000) (hat : ∀ r, r < ls.length → atN a0 r ≤ (rowN ls r).length) (hl0 : 0 ≤ looks0) (hl1 : looks0 ≤ 1000000000)
    (hK : w.heap[K]? = some (.cells #[.pointer (some ⟨X, 0, none⟩)] 56 (0, 0))) (hKg : K ≠ g) (hKX : K ≠ X) (hKw : w0.heap.size ≤ K) :
    SeqX n Try.prog 49 #[.pointer (some ⟨K, 0, none⟩)] encK (KK w0.heap.size X g K) (fun r => r = X ∨ r = g) (fun ys => ys = commonFrom ls a0) (fun ys => ys <+: commonFrom ls a0) ((rowN ls 0).length + 1) (KeysZ w0 X g cap v ls looks0 m) w := fun l J XX W hW hJa hXa hY h0 => by
  have HJA := Lib.hid hJa
  have HXA := Lib.hid hXa
  have HY := Lib.hid hY
  have HR := Lib.hid hR
  have HM := Lib.hid hm
  have HL0 := Lib.hid (h.later hW)
  have HK0 := Lib.hid ((hW.block _ (lt_of_block hK)).trans hK)
  have HI0 : Hid (KeyI ls a0 0 0) := Lib.hid ⟨h.n, hat, .inl ⟨rfl, rfl⟩⟩
  have hlen : (commonFrom ls a0).length ≤ (rowN ls 0).length := Nat.le_trans (List.length_filter_le _ _) (by rw [List.length_drop]; omega)
  clear hJa hXa hY hW hK hR hm hat h
  refine callsIn_of_wp Try.func49 rfl trivial ?_ rfl
  simp only [Try.ntmps49, List.size_toArray, List.length_cons, List.length_nil, Nat.reduceAdd, Nat.reduceSub, Array.replicate_succ, Array.replicate_zero, List.push_toArray, List.append_toArray, List.nil_append, List.cons_append]
  gi_wp2
  gi_loopw [3] (fun d wr => ∃ (pre : List Int) (a : List Nat) (D T N : Nat), pre ++ commonFrom ls a = commonFrom ls a0 ∧ KeyI ls a D T ∧ (0 < D → atN a 0 < (rowN ls 0).length) ∧ Lp w0 wr X g cap v ls a (looks0 + N) ∧ N ≤ (2 + 2 * lg (1 + m : Int)) * T ∧ J pre wr ∧ wr.heap[K]? = some (.cells #[.pointer (some ⟨X, 0, none⟩)] 56 (0, 0)) ∧ W.heap.size ≤ wr.heap.size) (fun _ wr => (rowN ls 0).length + 1 - atOf wr g)
  case atStart => exact ⟨[], a0, 0, 0, 0, rfl, HI0.out, fun h => by omega, by simpa using HL0.out, by omega, h0, HK0.out, Nat.le_refl _⟩
  case round =>
    obtain ⟨pre, a, D, T, N, hpre, hI, hD, hL, hN, hJ, hK, hsz⟩ := hrel
    have hT := (key_most hI 0 HR.out.some).2
    have hs0 := HR.out.short 0 HR.out.some
    have hlg := lg_le (1 + m : Int) (by omega)
    have hT2 : T ≤ 128128 := Nat.le_trans hT (by have := Nat.mul_le_mul HR.out.few (show 2 * ((rowN ls 0).length + 1) ≤ 2002 by omega); omega)
    have hN2 : N ≤ 126 * 128128 := Nat.le_trans hN (Nat.mul_le_mul (by omega) hT2)
    have k0 := box_cell (i := 0) hK
    simp at k0
    have HALL := Lib.hid (And.intro hpre (And.intro hI (And.intro hD (And.intro hL (And.intro hN (And.intro hJ hK))))))
    clear hpre hI hD hL hN hJ hK hT hT2 hlg
    have hC := common_any HALL.out.2.2.2.1 HR.out HM.out hm1 HALL.out.2.1.le (by omega) (by omega)
    have HC := Lib.hid hC
    clear hC
    gi_wp2_with (refine ⟨trivial, ?_⟩; gi_at_call 29; refine (callsIn_wide.2 HC.out).mono ?_; rintro e w1 ⟨ats, t, n1, q, rfl, hn1, hL1, hW1, hyes, hno⟩; cases q)
    · have hZ := hno (by first | rfl | trivial)
      have hnone := common_no hZ HR.out.some
      have hpre := HALL.out.1
      rw [hnone, List.append_nil] at hpre
      go_end0
      refine ⟨⟨_, rfl⟩, .inl ⟨pre, hpre, HJA.out _ _ _ HALL.out.2.2.2.2.2.1 hW1, ats, N + n1, T + t, ?_, ?_, key_no HALL.out.2.1 hZ HR.out.some (HR.out.rise 0 HR.out.some) HALL.out.2.2.1⟩⟩
      · rw [show looks0 + ((N + n1 : Nat) : Int) = looks0 + N + n1 from by omega]
        exact hL1
      · have := HALL.out.2.2.2.2.1
        rw [Nat.mul_add]
        omega
    · obtain ⟨key, hYk⟩ := hyes (by first | rfl | trivial)
      have h00 := HR.out.some
      have hp0 := hYk.at_ 0 h00
      have hyes2 := common_yes hYk h00 (HR.out.rise 0 h00)
      have hKI := key_yes HALL.out.2.1 hYk h00 HR.out.rise (Nat.lt_of_le_of_lt (hYk.ge 0 h00) hp0.1)
      have hat1 : atN ats 0 < atN ats 0 + 1 := by omega
      obtain ⟨a, c, rfl, r1, r2, r3, r4⟩ := hL1.rows.open
      obtain ⟨b, o, rfl, hb, hc⟩ := r4 (by omega)
      obtain ⟨rv, c1, hrv⟩ := hc 0 h00
      obtain ⟨a', c', rfl, s1, s2, s3, s4⟩ := hrv.open
      obtain ⟨b', o', rfl, hb', hc'⟩ := s4 (by omega)
      have c2 := hc' _ hp0.1
      have hk := hp0.2
      unfold valN at hk
      rw [getD_at hp0.1] at hk
      rw [hk] at c2
      rw [Nat.add_zero] at c1
      have HC0 := Lib.hid (And.intro c1 c2)
      replace c1 := cell_next hL1.bel c1
      replace c2 := cell_next hL1.bel c2
      obtain ⟨x0, x1, x2, fx⟩ := hL1.cells
      obtain ⟨y0, y1⟩ := hL1.at_ h00
      have hK1 := (hW1.block K (lt_of_block HALL.out.2.2.2.2.2.2) (fun e => by rcases e with e | e; exact hKX e; exact hKg e)).trans HALL.out.2.2.2.2.2.2
      have k1 := box_cell (i := 0) hK1
      simp at k1
      obtain ⟨p, hp⟩ : ∃ p, atN ats 0 = p := ⟨_, rfl⟩
      rw [hp] at c2 y0 hyes2 hKI hat1
      have hpl : p < (rowN ls 0).length := by rw [← hp]; exact hp0.1
      have hpI : (p : Int) < (rowN ls 0).length := by omega
      have h0I : (0 : Int) < ls.length := by omega
      have hpw : (p : Int) ≤ 1000 := by omega
      have HB := Lib.hid (And.intro hL1 (And.intro hW1 (And.intro hyes2 (And.intro hKI (And.intro hK1 (And.intro hn1 (And.intro hYk hp)))))))
      clear hyes hno hp0 hyes2 hKI hc r3 r4 hrv s3 s4 hc' hk hK1 hL1 hW1 hn1 hYk hp hb hb' hat1 k0
      refine wpIn_wide.2 ?_
      go_quiet (fail)
      gi_wp2
      obtain ⟨V, hV⟩ : ∃ V, ((w1.drewN nq).setCell ⟨g, 0, none⟩ (.int .i64 ((p : Int) + 1))) = V := ⟨_, rfl⟩
      have hWV : Wrote (fun b => b = X ∨ b = g) wr V := by rw [← hV]; exact HB.out.2.1.trans ((Wrote.of_below (later_drewN w1 nq)).set (.inr rfl) _)
      have hLV : Lp w0 V X g cap (.slice (some ⟨b, o, none⟩) ls.length c) ls (ats.set 0 (p + 1)) (looks0 + N + n1) := by rw [← hV]; exact (HB.out.1.later (later_drewN w1 nq)).setAt 0 (p + 1)
      have hKV : V.heap[K]? = some (.cells #[.pointer (some ⟨X, 0, none⟩)] 56 (0, 0)) := (hWV.block K (lt_of_block HALL.out.2.2.2.2.2.2) (fun e => by rcases e with e | e; exact hKX e; exact hKg e)).trans HALL.out.2.2.2.2.2.2
      have hpre := HALL.out.1
      rw [HB.out.2.2.1] at hpre
      have hplen : pre.length < (rowN ls 0).length + 1 := by have := congrArg List.length hpre; simp at this; omega
      obtain ⟨fn, tmps, assign, body, hy, hRd⟩ := HY.out pre key V.drew (HJA.out _ _ _ (HJA.out _ _ _ HALL.out.2.2.2.2.2.1 hWV) (Wrote.of_below (later_drew V))) hplen
      dsimp only [encK] at hy
      rw [hV]
      have HE := Lib.hid (And.intro hWV (And.intro hLV (And.intro hKV hpre)))
      have hszV : wr.heap.size ≤ V.heap.size := hWV.size
      clear hV hWV hLV hKV hpre hplen x0 x1 x2 fx y0 y1 k1 c1 c2
      refine wpIn_region_any (by kernel_rfl) ?_
      change wpAnyIn _ _ _ _ _ _ _ _ _ (World.drew _)
      refine wpAnyIn_take (i := 0) (v := ?v0) rfl rfl (by kernel_rfl) (by kernel_rfl) (by kernel_rfl) (fun _ _ _ h => h) ⟨Or.inl ⟨by rfl, ?hy0⟩, fun _ => rfl⟩ ?rest0
      case hy0 => intro w; go_simp; with_reducible rfl
      refine wpAnyIn_take (i := 1) (v := ?v1) rfl rfl (by kernel_rfl) (by kernel_rfl) (by kernel_rfl) (fun _ _ _ h => h) ⟨Or.inl ⟨by rfl, ?hy1⟩, fun _ => rfl⟩ ?rest1
      case hy1 => intro w; go_simp; with_reducible rfl
      refine wpAnyIn_ready (rs := [2]) (by kernel_rfl) (by simp) ?_
      refine AllReadyIn.cons rfl (fun KQ hKQ => ?_) AllReadyIn.nil
      go_simp
      refine hRd.mono ?_
      rintro en W3 (⟨rfl, hJ3, hk3⟩ | ⟨rfl, hX3⟩)
      · refine hKQ _ _ ?_
        have hL3 := (HE.out.2.1.later (later_drew V)).kept hk3
        have hK3 := hk3.2.2.2 _ HE.out.2.2.1
        have c1 := cell_next hL3.bel HC0.out.1
        obtain ⟨x0, x1, x2, fx⟩ := hL3.cells
        obtain ⟨y0, y1⟩ := hL3.at_ h00
        rw [atN_set (by rw [HB.out.2.2.2.2.2.2.1.n]; exact h00), if_pos rfl] at y0
        have k1 := box_cell (i := 0) hK3
        simp at k1
        have hs3 := hk3.1.size
        have HF := Lib.hid (And.intro hL3 (And.intro hK3 (And.intro hJ3 hs3)))
        clear hL3 hK3 hk3 hJ3 hs3
        have hpc : ((p + 1 : Nat) : Int) = (p : Int) + 1 := rfl
        by_cases hend : p + 1 = (rowN ls 0).length
        · have hb1 : (((p + 1 : Nat) : Int) == ((rowN ls 0).length : Int)) = true := beq_iff_eq.2 (by omega)
          have hb2 : ((p : Int) + 1 == ((rowN ls 0).length : Int)) = true := beq_iff_eq.2 (by omega)
          have HEND := Lib.hid hend
          clear hend hpc
          refine wpAnyIn_quiet_rest rfl 3 _ (by simp only [List.drop_succ_cons, List.drop_zero]; rfl) (by rfl) (by kernel_rfl) (by kernel_rfl) ?_
          repeat (gi_big_quiet_step (fail))
          refine wpQuietIn_nil ?_
          intro _ hw'
          obtain ⟨nq, rfl⟩ := hw'
          gi_wp2
          have hL4 := HF.out.1.later (later_drewN W3 nq)
          have hend := common_end (ls := ls) (a := ats.set 0 (p + 1)) (by rw [atN_set (by rw [HB.out.2.2.2.2.2.2.1.n]; exact h00), if_pos rfl]; exact Nat.le_of_eq HEND.out.symm)
          have hpre := HE.out.2.2.2
          rw [hend] at hpre
          have q1 := HALL.out.2.2.2.2.1
          have q2 := HB.out.2.2.2.2.2.1
          refine bodyPost_ret (results_none rfl _ _ _) rfl ?_
          refine ⟨⟨_, rfl⟩, .inl ⟨pre ++ [key], hpre, HJA.out _ _ _ HF.out.2.2.1 (Wrote.of_below (later_drewN W3 nq)), ats.set 0 (p + 1), N + n1, T + t, ?_, ?_, fun j hj => (key_most HB.out.2.2.2.1 j hj).2⟩⟩
          · rw [show looks0 + ((N + n1 : Nat) : Int) = looks0 + N + n1 from by omega]
            exact hL4
          · rw [Nat.mul_add]
            omega
        · have hb1 : (((p + 1 : Nat) : Int) == ((rowN ls 0).length : Int)) = false := beq_eq_false_iff_ne.2 (by omega)
          have hb2 : ((p : Int) + 1 == ((rowN ls 0).length : Int)) = false := beq_eq_false_iff_ne.2 (by omega)
          have HEND := Lib.hid hend
          clear hend hpc
          refine wpAnyIn_quiet_rest rfl 3 _ (by simp only [List.drop_succ_cons, List.drop_zero]; rfl) (by rfl) (by kernel_rfl) (by kernel_rfl) ?_
          repeat (gi_big_quiet_step (fail))
          refine wpQuietIn_nil ?_
          intro _ hw'
          obtain ⟨nq, rfl⟩ := hw'
          gi_wp2
          have hL4 := HF.out.1.later (later_drewN W3 nq)
          have q1 := HALL.out.2.2.2.2.1
          have q2 := HB.out.2.2.2.2.2.1
          have m1 := atOf_is hL4 h00
          have m2 := atOf_is HALL.out.2.2.2.1 h00
          have m3 := HB.out.2.2.2.2.2.2.1.ge 0 h00
          have m4 := HB.out.2.2.2.2.2.2.2
          have ha := atN_set (ats := ats) (r := 0) (p := p + 1) (by rw [HB.out.2.2.2.2.2.2.1.n]; exact h00) 0
          rw [if_pos rfl] at ha
          rw [ha] at m1
          have hq := HE.out.2.2.2
          refine ⟨⟨pre ++ [key], ats.set 0 (p + 1), D + 1, T + t, N + n1, by rw [List.append_assoc]; exact hq, HB.out.2.2.2.1, fun _ => by rw [ha]; have := HEND.out; omega, ?_, ?_, HJA.out _ _ _ HF.out.2.2.1 (Wrote.of_below (later_drewN W3 nq)), HF.out.2.1, ?_⟩, ?_⟩
          · rw [show looks0 + ((N + n1 : Nat) : Int) = looks0 + N + n1 from by omega]
            exact hL4
          · rw [Nat.mul_add]
            omega
          · have := HF.out.2.2.2
            simp at this ⊢
            omega
          · rw [m1, m2]
            omega
      · refine hKQ _ _ ?_
        refine wpAnyIn_quiet_rest rfl 3 _ (by simp only [List.drop_succ_cons, List.drop_zero]; rfl) (by rfl) (by kernel_rfl) (by kernel_rfl) ?_
        repeat (gi_big_quiet_step (fail))
        refine wpQuietIn_nil ?_
        intro _ hw'
        obtain ⟨nq, rfl⟩ := hw'
        gi_wp2
        have hq := HE.out.2.2.2
        refine bodyPost_ret (results_none rfl _ _ _) rfl ?_
        exact ⟨⟨_, rfl⟩, .inr ⟨pre ++ [key], ⟨_, by rw [List.append_assoc]; exact hq⟩, HXA.out _ _ _ hX3 (later_drewN W3 nq)⟩⟩
end Go.Proofs.Ytenhpfhadbafbaa
