/-
  The iterator over a trie's pairs, walked.
-/
import Derived.RangeFuncNested
import Derived.RangeFuncBound
import Derived.RangeFuncCalls
import Derived.RangeFuncLeaves
import Derived.Shelf.Abstract
import Derived.Shelf.RegionOpen
import Derived.WalkKit
import Derived.OwnWalkIn
import Derived.TacticsInMore
import Derived.LoopNIn
import Derived.LoopIn
import Derived.RegionIn
import Derived.Deep.QuietTactic
import Derived.BigQuiet
import Derived.Outline
import Derived.Laws.EntriesVeiled
import Derived.WalkSpells
import Derived.Test.YtdfnfdgkhflonaaRows
import Derived.Test.YtdfnfdgkhflonaaBase
import Derived.Test.YtdfnfdgkhflonaaBase2
import Derived.Test.YtdfnfdgkhflonaaTLib
import Derived.Test.YtdfnfdgkhflonaaTPlain
import Derived.Test.YtdfnfdgkhflonaaTOwn2
namespace Go.Proofs.Ytdfnfdgkhflonaa
open Go.RowKit Go.Shelf
set_option linter.unusedVariables false
attribute [local go_sem] Oper.semAt_some

set_option maxRecDepth 100000 in
/-- The leaves of a branch. -/
theorem leaves_any (vb pv : Value) (bl ol n c nf nt : Nat) (key : Int) (w : World) (hf : nf < nt) (ht : nt ≤ c) (hc : c ≤ 9223372036854775807) :
    Calls Try.prog 110 #[.agg #[vb, .slice (some ⟨bl, ol, none⟩) n c, pv], .agg #[.int .u64 key, .int .i64 nf, .int .i64 nt]] w fun e w' => e = .returned (.slice (some ⟨bl, ol + nf, none⟩) (nt - nf) (nt - nf)) ∧ Below w.heap.size w w' := by
  go_enter Try.func110, Try.ntmps110
  have e1 : (nt : Int) - (nf : Int) = ((nt - nf : Nat) : Int) := by omega
  go_wp2
  go_ret
  exact ⟨rfl, later_trans (later_alloc w _) (later_alloc _ _)⟩

/-- What the range over the pairs keeps: whatever lay below n0, and every block that is neither a pair's nor a row's of pairs. -/
def KPairs (n0 : Nat) (A C : World) : Prop :=
  Below n0 A C ∧ ∀ (b : Nat) (cs : Array Value) (e : TypeId) (fr : Nat × Nat), e ≠ 59 → e ≠ 57 → A.heap[b]? = some (Obj.cells cs e fr) → C.heap[b]? = some (Obj.cells cs e fr)
theorem KPairs.refl (n0 : Nat) (A : World) : KPairs n0 A A := ⟨Below.refl _ _, fun _ _ _ _ _ _ h => h⟩
theorem KPairs.trans {n0 : Nat} {A B C : World} (h : KPairs n0 A B) (k : KPairs n0 B C) : KPairs n0 A C := ⟨h.1.trans k.1, fun b cs e fr h1 h2 h3 => k.2 b cs e fr h1 h2 (h.2 b cs e fr h1 h2 h3)⟩
theorem KPairs.later {n0 : Nat} {A C : World} (hb : Below A.heap.size A C) (hn : n0 ≤ A.heap.size) : KPairs n0 A C := ⟨hb.mono hn, fun b cs e fr _ _ h => (hb.block b (lt_of_block h)).trans h⟩
theorem abides_later {β : Type} {B : Nat} {J : β → World → Prop} (hJ : AbidesFrom B J) {s : β} {A C : World} (h : J s A) (hb : Below A.heap.size A C) : J s C :=
  hJ s A C none h ⟨hb.os, hb.tape, hb.output, hb.size, fun k hk _ => hb.block k hk⟩ (fun r e => by cases e)

/-- A pair as the iterator tells it. -/
def encPr (p : Pr) : Array Value := #[.agg #[.int .u64 p.a, .int .u64 p.b]]

set_option maxRecDepth 100000 in
set_option maxHeartbeats 2000000 in
theorem pairs_stops (n : Nat) (hn : 1 ≤ n) (vb vl pv : Value) (B : List Br) (L : List Int) (K : Nat) (w0 w : World) (hw0 : Below w0.heap.size w0 w) (hB : SlB w0 vb B) (hL : SlI .u64 w0 vl L) (hok : TrieOk B L)
    (hK : w.heap[K]? = some (.cells #[vb, vl, pv] 120 (0, 0))) :
    SeqStopsK Fence.wide n Try.prog 109 #[.pointer (some ⟨K, 0, none⟩)] encPr (KPairs w0.heap.size)
      (fun ys => ys = runOf B L) (fun _ => True) 1048577 w := fun l J Jx W hW hJa _ hY h0 => by
  obtain ⟨a, c, rfl, h1, h2, h3, h4⟩ := hB.open
  obtain ⟨a', c', rfl, g1, g2, g3, g4⟩ := hL.open
  have HX := Lib.hid h4
  have HY := Lib.hid g4
  have HOK := Lib.hid hok
  have HJA := Lib.hid hJa
  have hKW := (hW.block _ (lt_of_block hK)).trans hK
  have hW0 := later_trans hw0 hW
  have hnW := hW0.size
  have hmL : L.length ≤ 1048576 := hok.1
  have hLc : L.length ≤ c' := g1
  have hmc : c' ≤ 9223372036854775807 := g2
  have hmB : B.length ≤ 9223372036854775807 := by omega
  have k0 := box_cell (i := 0) hKW
  simp at k0
  clear h1 h2 h3 h4 g1 g2 g3 g4 hok hB hL hJa
  refine callsIn_of_wp Try.func109 rfl trivial ?_ rfl
  simp only [Try.ntmps109, List.size_toArray, List.length_cons, List.length_nil, Nat.reduceAdd, Nat.reduceSub, Array.replicate_succ, Array.replicate_zero, List.push_toArray, List.append_toArray, List.nil_append, List.cons_append]
  gi_wp2
  gi_loopw [11] (fun k wr => ∃ i : Nat, i ≤ B.length ∧ k = .int .i64 i ∧ J (runTo B L i) wr ∧ KPairs w0.heap.size W wr) (fun k _ => B.length - (intOf k).toNat)
  case atStart => exact ⟨0, Nat.zero_le _, rfl, by rw [runTo_zero]; exact h0, KPairs.refl _ _⟩
  case round =>
    obtain ⟨i, hilt, rfl, hJ, hKp⟩ := hrel
    have hKr := hKp.2 _ _ _ _ (by decide) (by decide) hKW
    have hbw := hW0.trans hKp.1
    by_cases hlt : i < B.length
    · obtain ⟨bb, o, rfl, hbb, hcs⟩ := HX.out (by omega)
      obtain ⟨hk1, hf1, ht1⟩ := hcs i hlt
      have hk1 := ((bcell hbw).1 bb (o + i * 3) hbb).trans hk1
      have hf1 := ((bcell hbw).1 bb (o + i * 3 + 1) hbb).trans hf1
      have ht1 := ((bcell hbw).1 bb (o + i * 3 + 2) hbb).trans ht1
      have hgi : B.getD i Br.no = B[i] := by simp [List.getD, List.getElem?_eq_getElem hlt]
      have hbri := (HOK.out.2.1 i hlt).1
      unfold BrOk at hbri
      rw [hgi] at hbri
      have hnn := endAt_nonneg (n := i) (fun j hj => (HOK.out.2.1 j (by omega)).1)
      have hlen := runTo_len (L := L) (fun j hj => (HOK.out.2.1 j hj).1) (i := i) (by omega)
      obtain ⟨q1, q2, q3, -⟩ := hbri
      obtain ⟨nf, hnf⟩ : ∃ n : Nat, B[i].f = n := ⟨B[i].f.toNat, by omega⟩
      obtain ⟨nt, hnt⟩ : ∃ n : Nat, B[i].t = n := ⟨B[i].t.toNat, by omega⟩
      obtain ⟨key, hkey⟩ : ∃ n, B[i].k = n := ⟨_, rfl⟩
      have hseg : segOf L B[i] = segTo L key nf (nt - nf) := by simp [segOf, hnf, hnt, hkey]
      have HS := Lib.hid (runTo_succ (L := L) hlt)
      have HSE := Lib.hid hseg
      have hlen0 : (runTo B L i).length = nf := by omega
      have hntl : nt ≤ L.length := by omega
      have hnft : nf < nt := by omega
      have hntc : nt ≤ c' := by omega
      rw [hnf] at hf1
      rw [hnt] at ht1
      rw [hkey] at hk1
      obtain ⟨bl, ol, rfl, hbl, hcl⟩ := HY.out (by omega)
      have HCL := Lib.hid hcl
      have r0 := box_cell (i := 0) hKr
      have r1 := box_cell (i := 1) hKr
      have r2 := box_cell (i := 2) hKr
      simp at r0 r1 r2
      have hKlt := lt_of_block hKr
      clear hcs hcl hnn hlen q1 q2 q3 hgi hseg
      gi_wp2_with (refine ⟨trivial, ?_⟩; gi_at_call 110; refine (callsIn_wide.2 (leaves_any _ _ _ _ _ _ _ _ _ _ hnft hntc hmc)).mono ?_; rintro e w3 ⟨rfl, hb3⟩)
      have hb3' := later_trans (later_alloc wr (.cells #[.int .u64 key, .int .i64 nf, .int .i64 nt] 40)) hb3
      have hbox3 := (hb3.block _ (lt_of_block (box_new wr #[.int .u64 key, .int .i64 nf, .int .i64 nt] 40))).trans (box_new wr _ _)
      have hJ3 := abides_later HJA.out hJ hb3'
      have hKp3 := hKp.trans (KPairs.later hb3' (Nat.le_trans hnW (by have := hKp.1.size; omega)))
      obtain ⟨N, hN⟩ : ∃ N, wr.heap.size = N := ⟨_, rfl⟩
      rw [hN] at hbox3
      simp only [hN]
      gi_loopw [19] (fun m wi => ∃ q : Nat, nf + q ≤ nt ∧ m = .int .i64 q ∧ J (runTo B L i ++ segTo L key nf q) wi ∧ wi.heap[N]? = some (.cells #[.int .u64 key, .int .i64 nf, .int .i64 nt] 40 (0, 0)) ∧ KPairs w0.heap.size W wi) (fun m _ => nt - nf - (intOf m).toNat)
      case atStart => exact ⟨0, by omega, rfl, by rw [segTo_zero, List.append_nil]; exact hJ3, hbox3, hKp3⟩
      case round =>
        obtain ⟨q, hq, rfl, hJ, hbox, hKi⟩ := hrel
        have hseglen : (segTo L key nf q).length = q := segTo_len (by omega)
        have hall : (runTo B L i ++ segTo L key nf q).length = nf + q := by rw [List.length_append, hlen0, hseglen]
        have hbi := hW0.trans hKi.1
        by_cases hqt : nf + q < nt
        · have hrd0 : q < nt - nf := by omega
          have hleaf : wr.cell? ⟨bl, ol + nf + q, none⟩ = some (.int .u64 L[nf + q]) := by
            rw [show ol + nf + q = ol + (nf + q) from by omega]
            exact ((bcell hbi).1 bl _ hbl).trans (HCL.out (nf + q) (by omega))
          obtain ⟨x, hx⟩ : ∃ x, L[nf + q] = x := ⟨_, rfl⟩
          rw [hx] at hleaf
          have hst := segTo_succ (L := L) (k := key) (f := nf) (q := q) (by omega)
          rw [hx] at hst
          have hbkey := box_cell (i := 0) hbox
          simp at hbkey
          obtain ⟨l0, hl0⟩ : ∃ l0, runTo B L i ++ segTo L key nf q = l0 := ⟨_, rfl⟩
          have HST := Lib.hid (show runTo B L i ++ segTo L key nf (q + 1) = l0 ++ [⟨key, x⟩] by rw [hst, ← List.append_assoc, hl0])
          rw [hl0] at hJ hall
          obtain ⟨fn, tmps, assign, body, hy, hR⟩ := hY l0 ⟨key, x⟩ wr hJ (by omega)
          dsimp only [encPr] at hy
          clear hst hx hl0
          gi_wp2
          refine hR.mono ?_
          rintro en W3 (⟨rfl, hJ3, hk3⟩ | ⟨rfl, hJx3⟩)
          · have hbox4 := hk3.2 _ _ _ _ (by decide) (by decide) hbox
            gi_wp2
            go_roundw
            case rel => exact ⟨q + 1, by omega, by go_num, by rw [HST.out]; exact hJ3, hbox4, hKi.trans hk3⟩
            case measure => simp [intOf]; omega
          · gi_wp2
            refine bodyPost_ret (results_none rfl _ _ _) rfl ?_
            exact ⟨⟨_, rfl⟩, .inr ⟨_, trivial, hJx3⟩⟩
        · have hq' : nf + q = nt := by omega
          have hrd0 : ¬ q < nt - nf := by omega
          gi_wp2
          go_roundw
          case rel =>
            refine ⟨i + 1, by omega, by go_num, ?_, hKi⟩
            rw [HS.out, HSE.out, show nt - nf = q from by omega]
            exact hJ
          case measure => simp [intOf]; omega
    · obtain rfl : i = B.length := by omega
      rw [runTo_all (Nat.le_refl _)] at hJ
      gi_wp2
      go_end0
      exact ⟨⟨_, rfl⟩, .inl ⟨_, rfl, hJ⟩⟩
end Go.Proofs.Ytdfnfdgkhflonaa
