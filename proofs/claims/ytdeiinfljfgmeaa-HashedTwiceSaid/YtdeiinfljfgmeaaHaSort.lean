/-
  slices.SortFunc at rows of uint64 by hashed's order.
-/
import Derived.Shelf.SlSortCmp.NoneTotal
import Derived.Test.YtdeiinfljfgmeaaHaLay
import Derived.Test.YtdeiinfljfgmeaaSf5
import Derived.Test.YtdeiinfljfgmeaaHaFns
namespace Go.Proofs.Ytdeiinfljfgmeaa
open Go.RowKit Go.Sort Go.Shelf Go.Proofs
set_option linter.unusedVariables false

section
variable {enc : Nat → Value}
theorem holds_of_block {w : World} {g : Nat} {cur : Array Value} {e : TypeId} {d : Array Nat} (hb : w.heap[g]? = some (.cells cur e (0, 0))) (ht : cur.toList.take d.size = d.toList.map enc) : Holds enc w g 0 d := by
  intro j hj
  refine ⟨?_, by simp [World.frozen?, hb]⟩
  have h1 : (cur.toList.take d.size)[j]? = (d.toList.map enc)[j]? := by rw [ht]
  rw [List.getElem?_take_of_lt hj] at h1
  simp only [World.cell?, hb, Nat.zero_add]
  simp only [Option.isSome_none, Bool.false_eq_true, if_false]
  rw [← Array.getElem?_toList, h1]
  simp [hj]
theorem heap_sorted {w : World} {g n : Nat} {os : Array Obj} {cur : Array Value} {e : TypeId} {fr : Nat × Nat} (d : Array Nat) (hb : w.heap[g]? = some (.cells cur e fr)) :
    (sortWorld enc w g 0 n d os).heap[g]? = some (.cells (putCells enc 0 d cur) e fr) := by
  have hg : g < w.heap.size := (Array.getElem?_eq_some_iff.1 hb).1
  unfold sortWorld
  rw [heap_grow_old _ _ (by simpa using hg)]
  simp [putRow, mapBlock, Sort.ahead, Array.getElem?_modify, hb, onCells]
theorem grownBy_sorted {w : World} {g n : Nat} {os : Array Obj} (d : Array Nat) : w.grownBy (sortWorld enc w g 0 n d os) (some g) := by
  unfold sortWorld
  refine ⟨rfl, rfl, rfl, by simp, fun k hk hne => ?_⟩
  rw [heap_grow_old _ _ (by simpa using hk)]
  have : g ≠ k := fun e => hne (by rw [e])
  simp [putRow, mapBlock, Sort.ahead, Array.getElem?_modify, this]
theorem take_putCells (cur : Array Value) (d : Array Nat) (h : d.size ≤ cur.size) : (putCells enc 0 d cur).toList.take d.size = d.toList.map enc := by
  apply List.ext_getElem?
  intro j
  by_cases hj : j < d.size
  · rw [List.getElem?_take_of_lt hj, Array.getElem?_toList]
    simp [putCells, hj, show j < cur.size by omega]
  · rw [List.getElem?_take_eq_none (by omega), List.getElem?_eq_none (by simp; omega)]
end
/-- Rows in order, twins beside each other. -/
def SortedR (ls : List (List Int)) : Prop := ∀ i j, i < j → j < ls.length → lexC (rowN ls j) (rowN ls i) ≠ -1
theorem swo_rows {n : Nat} {rw' : Nat → List Int} (h : ∀ i, (rw' i).length = n) : SWO (ltOf fun x y => lexC (rw' x) (rw' y)) := by
  have lt : ∀ x y, ltOf (fun x y => lexC (rw' x) (rw' y)) x y = true ↔ lexC (rw' x) (rw' y) = -1 := fun x y => by
    unfold ltOf
    rw [decide_eq_true_iff]
    show lexC (rw' x) (rw' y) < 0 ↔ _
    rcases lexC_cases (rw' x) (rw' y) with e | e | e <;> rw [e] <;> decide
  have ltf : ∀ x y, ltOf (fun x y => lexC (rw' x) (rw' y)) x y = false ↔ lexC (rw' x) (rw' y) ≠ -1 := fun x y => by
    rw [← Bool.not_eq_true, lt]
  refine ⟨fun x => (ltf x x).2 (by rw [lexC_self]; decide), fun x y z h1 h2 => ?_, fun x y z h1 h2 => ?_⟩
  · exact (lt x z).2 (lexC_trans (by rw [h, h]) (by rw [h, h]) ((lt x y).1 h1) ((lt y z).1 h2))
  · refine (ltf x z).2 fun hxz => ?_
    have g1 := (ltf x y).1 h1
    have g2 := (ltf y z).1 h2
    rcases lexC_cases (rw' x) (rw' y) with e | e | e
    · exact g1 e
    · rw [lexC_eq (by rw [h, h]) e] at hxz
      exact g2 hxz
    · have h3 : lexC (rw' y) (rw' x) = -1 := by rw [lexC_neg (rw' x), e]
      exact g2 (lexC_trans (by rw [h, h]) (by rw [h, h]) h3 hxz)
set_option maxHeartbeats 1000000 in
theorem sortU_any (n : Nat) {w0 w : World} {base : Nat} {v : Value} {vs : List Value} {ls : List (List Int)} (hO : OldRows w0 base w v vs ls) (hb0 : Below w0.heap.size w0 w) (hbase : w0.heap.size ≤ base) (hbw : base ≤ w.heap.size) (hw : Wd n ls) (hlen : ls.length < 4611686018427387904) :
    Calls Try.prog 61 #[v, .func (.func 56) #[.agg #[.int .i64 (n : Int)]] #[]] w fun e w' => e = .returned (.tuple #[]) ∧ ∃ vs' ls', OldRows w0 base w' v vs' ls' ∧ (∀ x, x ∈ ls' ↔ x ∈ ls) ∧ SortedR ls' ∧ ls'.length = ls.length ∧ Below base w w' ∧ w.grownBy w' v.ownBlock := by
  by_cases h0 : ls.length = 0
  · obtain ⟨a, c, rfl⟩ := owns_shape2 hO.own
    have hv0 : vs.length = 0 := by rw [hO.len, h0]
    have hS := AnyF.slices_SortFunc_none (P := Try.prog) (ρ := sortL_ren) { sortL with } a c (.func (.func 56) #[.agg #[.int .i64 (n : Int)]] #[]) w
    change Calls Try.prog 61 _ _ _ at hS
    rw [hv0]
    refine hS.mono ?_
    rintro e w' ⟨rfl, rfl⟩
    refine ⟨rfl, vs, ls, by rw [← hv0]; exact hO, fun x => Iff.rfl, fun i j h1 h2 => by omega, rfl, Below.refl _ _, World.grownBy.refl _ _⟩
  · obtain ⟨m, hm⟩ : ∃ m, ls.length = m := ⟨_, rfl⟩
    have hm0 : 0 < m := by omega
    obtain ⟨rw', hrw⟩ : ∃ rw' : Nat → List Int, rw' = fun i => rowN ls (if i < m then i else 0) := ⟨_, rfl⟩
    obtain ⟨enc, henc⟩ : ∃ enc : Nat → Value, enc = fun i => vs.getD (if i < m then i else 0) undef := ⟨_, rfl⟩
    have hcl : ∀ i : Nat, (if i < m then i else 0) < ls.length := fun i => by split <;> omega
    have hrl : ∀ i, (rw' i).length = n := fun i => by rw [hrw]; exact hw _ (rowN_mem (hcl i))
    have hrd : ∀ i, SlI .u64 w0 (enc i) (rw' i) := fun i => by rw [henc, hrw]; exact hO.rows _ (hcl i)
    have hone : OneCell enc := fun i => old_oneCell (hrd i)
    have hvr : vs = (List.range m).map enc := by
      refine List.ext_getElem (by simp [hO.len, hm]) fun i h1 h2 => ?_
      have hi : i < m := by rw [← hm, ← hO.len]; exact h1
      rw [List.getElem_map, List.getElem_range, henc]
      simp only [if_pos hi]
      simp [List.getD, h1]
    have hlr : ls = (List.range m).map rw' := by
      refine List.ext_getElem (by simp [hm]) fun i h1 h2 => ?_
      have hi : i < m := by omega
      rw [List.getElem_map, List.getElem_range, hrw]
      simp only [if_pos hi]
      rw [rowN_at h1]
    rcases hO.own.2 with ⟨rfl, h1⟩ | ⟨g, cap, cur, rfl, hg, hh, h1, h2, h3, h4⟩
    · exact absurd (hO.len ▸ h1) h0
    · have hlt : g < w.heap.size := (Array.getElem?_eq_some_iff.1 hh).1
      have hvl : vs.length = m := by rw [hO.len, hm]
      have hds : (Array.range m).size = m := Array.size_range
      have hHd : Holds enc w g 0 (Array.range m) := holds_of_block hh (by
        rw [hds]
        have h5 := h4
        rw [hvl, Nat.mul_one] at h5
        rw [h5, hvr]
        simp)
      have eg : ∀ args w, (callFunc 56 args).run Try.prog w = .ok (.enter 56 args) w := enters_of Try.func56 (by kernel_rfl) rfl
      have hbelow : ∀ (q : Nat) (dk : Array Nat) (os : Array Obj), Below base w (sortWorld enc w g 0 q dk os) := fun q dk os => (Below.refl base w).grown (grownBy_sorted dk) hbw (fun k e => by cases e; exact hg)
      have hcmp : CmpLays1 Try.prog 56 (.agg #[.int .i64 (n : Int)]) enc (fun x y => lexC (rw' x) (rw' y)) g 0 (Array.range m).size w := fun q os dk hs x y => by
        have hbW : Below w0.heap.size w0 (sortWorld enc w g 0 q dk os) := hb0.trans ((hbelow q dk os).mono hbase)
        refine (compare_any n (enc x) (enc y) (rw' x) (rw' y) _ (SlI.later (hrd x) hbW) (SlI.later (hrd y) hbW) (hrl x) (hrl y)).mono ?_
        rintro e w' ⟨rfl, q', rfl⟩
        exact ⟨rfl, q', #[.cells #[.int .i64 (n : Int)] 83], by rw [alloc_eq_grow]; rfl⟩
      have hS := Any.slices_SortFunc sortL enc hone (fun x y => lexC (rw' x) (rw' y)) (swo_rows hrl) 56 (.agg #[.int .i64 (n : Int)]) g 0 cap (Array.range m) w eg hcmp hHd hlt (by rw [hds]; omega)
      change Calls Try.prog 61 _ _ _ at hS
      rw [hds] at hS
      rw [hvl]
      refine hS.mono ?_
      rintro e w' ⟨rfl, d', q, os, hp, hs, rfl⟩
      obtain ⟨p1, -, p3⟩ := hp
      rw [hds] at p1
      have hperm : d'.toList.Perm (List.range m) := by
        have e1 : d'.extract 0 m = d' := by rw [← p1]; exact Array.extract_size
        have e2 : (Array.range m).extract 0 m = Array.range m := by
          have := Array.extract_size (xs := Array.range m)
          rwa [hds] at this
        rw [e1, e2] at p3
        simpa using p3
      have hdl : d'.toList.length = m := by simpa using p1
      refine ⟨rfl, d'.toList.map enc, d'.toList.map rw', ⟨⟨by simp, .inr ⟨g, cap, _, by simp [p1], hg, heap_sorted d' hh, by simp [p1]; omega, h2, by simpa [putCells] using h3, ?_⟩⟩, by simp, fun r hr => ?_⟩, fun x => ?_, fun i j hij hj => ?_, by simp [p1, hm], hbelow _ _ _, grownBy_sorted d'⟩
      · rw [Nat.mul_one, List.length_map, hdl]
        have := take_putCells (enc := enc) cur d' (by rw [p1]; omega)
        rwa [p1] at this
      · rw [List.length_map, hdl] at hr
        have e1 : (d'.toList.map enc).getD r undef = enc (d'.toList[r]'(by omega)) := by simp [List.getD, show r < d'.size by omega]
        have e2 : rowN (d'.toList.map rw') r = rw' (d'.toList[r]'(by omega)) := by rw [rowN_at (by rw [List.length_map]; omega), List.getElem_map]
        rw [e1, e2]
        exact hrd _
      · rw [hlr]
        simp only [List.mem_map]
        constructor
        · rintro ⟨i, hi, e⟩
          exact ⟨i, hperm.mem_iff.1 hi, e⟩
        · rintro ⟨i, hi, e⟩
          exact ⟨i, hperm.mem_iff.2 hi, e⟩
      · rw [List.length_map, hdl] at hj
        have h5 := hs i j (Nat.zero_le _) hij hj
        rw [rowN_at (by rw [List.length_map]; omega), rowN_at (by rw [List.length_map]; omega), List.getElem_map, List.getElem_map]
        rw [getElem!_pos d' j (by omega), getElem!_pos d' i (by omega)] at h5
        unfold ltOf at h5
        have h6 : ¬ lexC (rw' (d'[j]'(by omega))) (rw' (d'[i]'(by omega))) < 0 := of_decide_eq_false h5
        intro h7
        have h8 : lexC (rw' (d'[j]'(by omega))) (rw' (d'[i]'(by omega))) = -1 := by simpa using h7
        rw [h8] at h6
        exact h6 (by decide)
end Go.Proofs.Ytdeiinfljfgmeaa
