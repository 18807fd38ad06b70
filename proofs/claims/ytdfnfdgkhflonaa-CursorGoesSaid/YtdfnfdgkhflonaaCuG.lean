/-
  The cursor's moves by their plain state.
-/
import Derived.Test.YtdfnfdgkhflonaaCuF
namespace Go.Proofs.Ytdfnfdgkhflonaa
open Go.RowKit
set_option linter.unusedVariables false

theorem SlI.open' {w : World} {v : Value} {xs : List Int} (h : SlI .u64 w v xs) :
    ∃ (a : Option Addr) (c : Nat), v = .slice a xs.length c ∧ xs.length ≤ c ∧ c ≤ maxLen ∧ (0 < xs.length → ∃ b o, a = some ⟨b, o, none⟩ ∧ b < w.heap.size ∧ ∀ i, (hi : i < xs.length) → w.cell? ⟨b, o + i, none⟩ = some (.int .u64 xs[i])) := by
  obtain ⟨⟨a, c, h1, h2, h3, h4, h5⟩, _⟩ := h
  simp only [List.length_map] at h1 h2
  refine ⟨a, c, h1, h2, h3, fun h0 => ?_⟩
  obtain ⟨b, o, e, hlt, hc⟩ := h5 (by intro e; have := congrArg List.length e; simp at this; rw [this] at h0; simp at h0)
  exact ⟨b, o, e, hlt, fun i hi => hc i _ (by simp [List.getElem?_eq_getElem hi])⟩
/-- A part of a row. -/
theorem SlI.part {w : World} {b o n c f q : Nat} {xs : List Int} (h : SlI .u64 w (.slice (some ⟨b, o, none⟩) n c) xs) (hq : 0 < q) (hf : f + q ≤ xs.length) : SlI .u64 w (.slice (some ⟨b, o + f, none⟩) q q) ((xs.drop f).take q) := by
  have hm := h.len
  obtain ⟨⟨a, c', h1, h2, h3, h4, h5⟩, hw⟩ := h
  have hl : (((xs.drop f).take q).map (Value.int .u64)).length = q := by simp; omega
  refine ⟨⟨some ⟨b, o + f, none⟩, q, by rw [hl], by omega, by omega, fun h => (by cases h), fun _ => ?_⟩, fun x hx => hw x (List.mem_of_mem_drop (List.mem_of_mem_take hx))⟩
  obtain ⟨b', o', e, hlt, hc⟩ := h5 (by intro e; have := congrArg List.length e; simp at this; rw [this] at hf; simp at hf; omega)
  cases h1
  cases e
  refine ⟨b, o + f, rfl, hlt, fun i u hi => ?_⟩
  rw [Nat.add_assoc]
  refine hc (f + i) u ?_
  have hiq : i < q := by have := (List.getElem?_eq_some_iff.1 hi).1; omega
  rw [List.map_take, List.getElem?_take_of_lt hiq, List.map_drop, List.getElem?_drop] at hi
  exact hi

/-- What a branch of a trie has. -/
theorem TrieS.at {bs : List Br} {ls : List Int} (h : TrieS bs ls) {i : Nat} (hi : i < bs.length) :
    ∃ f t : Nat, bs[i].f = f ∧ bs[i].t = t ∧ f < t ∧ t ≤ ls.length ∧ leavesOf ls (bs.getD i Br.no) = (ls.drop f).take (t - f) ∧ (leavesOf ls (bs.getD i Br.no)).length = t - f := by
  have hg : bs.getD i Br.no = bs[i] := by simp [List.getD, List.getElem?_eq_getElem hi]
  obtain ⟨⟨h1, h2, h3, h4⟩, _⟩ := h.ok.2.1 i hi
  have h0 := endAt_nonneg (B := bs) (L := ls) (n := i) (fun j hj => (h.ok.2.1 j (by omega)).1)
  rw [hg] at h1 h2 h3
  refine ⟨bs[i].f.toNat, bs[i].t.toNat, by omega, by omega, by omega, by omega, by rw [hg]; rfl, ?_⟩
  rw [hg]
  simp [leavesOf]
  omega
theorem keysOf_len (bs : List Br) : (keysOf bs).length = bs.length := by simp [keysOf]

theorem rises_of {xs : List Int} (h : ∀ k : Nat, 0 < k → k < xs.length → xs.getD (k - 1) 0 < xs.getD k 0) : risesB xs = true := by
  refine risesTo_all (k := xs.length) ?_ (Nat.le_refl _)
  intro i hi _
  have := h (i + 1) (by omega) hi
  simpa [List.getD, List.getElem?_eq_getElem hi, List.getElem?_eq_getElem (show i < xs.length by omega)] using this
theorem rises_keys {bs : List Br} {ls : List Int} (h : TrieS bs ls) : risesB (keysOf bs) = true := by
  refine rises_of fun k h0 hk => ?_
  rw [keysOf_len] at hk
  obtain ⟨⟨_, _, _, h4⟩, _⟩ := h.ok.2.1 k hk
  have h5 := h4.resolve_left (by omega)
  simp only [keysOf, List.getD_eq_getElem?_getD, List.getElem?_map, List.getElem?_eq_getElem hk, List.getElem?_eq_getElem (show k - 1 < bs.length by omega)] at h5 ⊢
  exact h5
theorem rises_leaves {bs : List Br} {ls : List Int} (h : TrieS bs ls) {i : Nat} (hi : i < bs.length) : risesB (leavesOf ls (bs.getD i Br.no)) = true := by
  obtain ⟨f, t, hf, ht, hft, htl, hle, hll⟩ := h.at hi
  have hg : bs.getD i Br.no = bs[i] := by simp [List.getD, List.getElem?_eq_getElem hi]
  have hs := (h.ok.2.1 i hi).2
  rw [hg] at hs
  refine rises_of fun k h0 hk => ?_
  rw [hll] at hk
  have := hs (f + k) (by omega) (by omega)
  rw [hle]
  simp only [List.getD_eq_getElem?_getD] at this ⊢
  rw [List.getElem?_take_of_lt (by omega), List.getElem?_take_of_lt hk, List.getElem?_drop, List.getElem?_drop]
  rw [show f + k - 1 = f + (k - 1) from by omega] at this
  exact this

/-- What a move that can be made leaves. -/
def Made (w : World) (C : Nat → Prop) (c N : Nat) (rv : Value) (bs : List Br) (ls : List Int) (ats : List Nat) (st kind key : Int) (w' : World) : Prop :=
  ∃ rv', Turn w w' c rv rv' ∧ ∃ n, Steps bs ls kind key ats n ∧ CuM w' C c N rv' bs ls (moved bs ls kind key ats) (st + n)
/-- A move that can be made, and one that can't. -/
def Moves (F : Nat) (kind : Int) : Prop := ∀ (w : World) (C : Nat → Prop) (c N : Nat) (rv : Value) (bs : List Br) (ls : List Int) (ats : List Nat) (st key : Int), CuM w C c N rv bs ls ats st → TrieS bs ls → 0 ≤ st → st ≤ 4611686018427387904 →
  (whyQ bs ls ats kind = 0 → Calls Try.prog F #[.pointer (some ⟨c, 0, none⟩), .int .u64 key] w fun e w' => e = .returned (.tuple #[]) ∧ Made w C c N rv bs ls ats st kind key w') ∧
  (∀ q, whyQ bs ls ats kind = q → q ≠ 0 → Calls Try.prog F #[.pointer (some ⟨c, 0, none⟩), .int .u64 key] w fun e w' => e = .panicked (thrown q) ∧ Below w.heap.size w w')

theorem cum_turn {w w' : World} {C : Nat → Prop} {c N : Nat} {rv rv' : Value} {bs : List Br} {ls : List Int} {st st' : Int} {kv bv lv : Value} {rs rs' : List (Value × Int)} {ats' : List Nat}
    (hS : CuS w c N rv st kv bv lv rs) (hC : C c) (h1 : SlI .u64 w kv (keysOf bs)) (h2 : SlB w bv bs) (h3 : SlI .u64 w lv ls) (l1 : Low N C kv) (l2 : Low N C bv) (l3 : Low N C lv)
    (hT : Turn w w' c rv rv') (hS' : CuS w' c N rv' st' kv bv lv rs') (hR : RowsAre w N C bs ls kv rs' ats') : CuM w' C c N rv' bs ls ats' st' := by
  have ha : Agree N C w w' := hT.agree hS.size hC (fun b hb => (hS.own.lt b hb).1)
  exact ⟨kv, bv, lv, rs', hS', hC, h1.agree l1 ha, h2.agree l2 ha, h3.agree l3 ha, l1, l2, l3, hR.agree ha⟩

theorem open_moves : Moves 73 1 := by
  intro w C c N rv bs ls ats st key hM hT hs0 hs
  obtain ⟨kv, bv, lv, rs, hS, hC, h1, h2, h3, l1, l2, l3, hR⟩ := hM
  match ats, hR with
  | [], hR =>
    have hR : rs = [] := hR
    subst hR
    refine ⟨fun _ => ?_, fun q hq h0 => absurd hq.symm (by simp [whyQ, atEnd]; exact h0)⟩
    obtain ⟨a, kc, rfl, _⟩ := h1.open'
    refine (open_root hS hs0 hs).mono ?_
    rintro e w' ⟨rfl, rv', k1, k2⟩
    exact ⟨rfl, rv', k2, 1, by simp [Steps], cum_turn hS hC h1 h2 h3 l1 l2 l3 k2 k1 ⟨by simp, by omega⟩⟩
  | [i], hR =>
    obtain ⟨rfl, hi⟩ : rs = [(kv, (i : Int))] ∧ i ≤ bs.length := hR
    obtain ⟨ka, kc, hkv, _⟩ := h1.open'
    subst hkv
    obtain ⟨ba, bc, hbv, hb2, _, _, hb5⟩ := h2.open
    subst hbv
    obtain ⟨la, lc, hlv, hl2, hl3, hl5⟩ := h3.open'
    subst hlv
    by_cases hlt : i < bs.length
    · refine ⟨fun _ => ?_, fun q hq h0 => absurd hq.symm (by simp [whyQ, atEnd, lastAt, rowAt, keysOf]; omega)⟩
      obtain ⟨f, t, hf, ht, hft, htl, hle, hll⟩ := hT.at hlt
      obtain ⟨bb, bo, rfl, hbb, hbc⟩ := hb5 (by omega)
      obtain ⟨lb, lo, rfl, hlb, _⟩ := hl5 (by omega)
      obtain ⟨c0, c1, c2⟩ := hbc i hlt
      rw [hf] at c1
      rw [ht] at c2
      refine (open_leaf (bb := bb) (bo := bo) (lb := lb) (lo := lo) (f := f) (t := t) hS (by rw [keysOf_len]; exact hlt) hlt rfl c0 c1 c2 rfl hft (by omega) hl3 hs0 hs).mono ?_
      rintro e w' ⟨rfl, rv', k1, k2⟩
      refine ⟨rfl, rv', k2, 1, by simp [Steps], cum_turn hS hC h1 h2 h3 l1 l2 l3 k2 k1 ?_⟩
      refine ⟨hlt, _, rfl, ?_, ?_, Nat.zero_le _⟩
      · rw [hle]; exact h3.part (by omega) (by omega)
      · intro b hb; exact l3 b hb
    · refine ⟨fun h => absurd h (by simp [whyQ, atEnd, lastAt, rowAt, keysOf]; omega), fun q hq h0 => ?_⟩
      have : q = 4 := by rw [← hq]; simp [whyQ, atEnd, lastAt, rowAt, keysOf]; omega
      subst this
      exact open_end hS (by rw [keysOf_len]; omega)
  | [i, j], hR =>
    obtain ⟨hi, v2, rfl, r1, r2, r3⟩ := hR
    refine ⟨fun h => absurd h (by simp [whyQ]), fun q hq h0 => ?_⟩
    have : q = 2 := by rw [← hq]; simp [whyQ]
    subst this
    exact open_full (rs := []) hS

/-- The rows of a cursor that is not at the root. -/
theorem rows_last {w : World} {N : Nat} {C : Nat → Prop} {bs : List Br} {ls : List Int} {kv : Value} {rs : List (Value × Int)} {ats : List Nat} (hT : TrieS bs ls) (h1 : SlI .u64 w kv (keysOf bs)) (hR : RowsAre w N C bs ls kv rs ats) :
    (ats = [] ∧ rs = []) ∨ ∃ rs0 v, rs = rs0 ++ [(v, (lastAt ats : Int))] ∧ rs0.length < 2 ∧ ats = ats.dropLast ++ [lastAt ats] ∧ SlI .u64 w v (rowAt bs ls ats) ∧ lastAt ats ≤ (rowAt bs ls ats).length ∧ risesB (rowAt bs ls ats) = true ∧ (rowAt bs ls ats).length ≤ 1048576 ∧
      RowsAre w N C bs ls kv rs0 ats.dropLast ∧ ∀ j, j ≤ (rowAt bs ls ats).length → RowsAre w N C bs ls kv (rs0 ++ [(v, (j : Int))]) (ats.dropLast ++ [j]) := by
  match ats, hR with
  | [], hR => exact .inl ⟨rfl, hR⟩
  | [i], hR =>
    obtain ⟨rfl, hi⟩ : rs = [(kv, (i : Int))] ∧ i ≤ bs.length := hR
    refine .inr ⟨[], kv, rfl, by simp, rfl, h1, by rw [show rowAt bs ls [i] = keysOf bs from rfl, keysOf_len]; exact hi, ?_, ?_, rfl, fun j hj => ⟨rfl, by rw [show rowAt bs ls [i] = keysOf bs from rfl, keysOf_len] at hj; exact hj⟩⟩
    · exact rises_keys hT
    · rw [show rowAt bs ls [i] = keysOf bs from rfl, keysOf_len]; exact hT.few
  | [i, j], hR =>
    obtain ⟨hi, v2, rfl, r1, r2, r3⟩ := hR
    obtain ⟨f, t, hf, ht, hft, htl, hle, hll⟩ := hT.at hi
    refine .inr ⟨[(kv, (i : Int))], v2, rfl, by simp, rfl, r1, r3, ?_, ?_, ⟨rfl, by omega⟩, fun j' hj => ⟨hi, v2, rfl, r1, r2, hj⟩⟩
    · exact rises_leaves hT hi
    · have := hT.ok.1; show (leavesOf ls (bs.getD i Br.no)).length ≤ _; omega

theorem why_none (bs : List Br) (ls : List Int) {kind : Int} (hk : kind ≠ 1) : whyQ bs ls [] kind = 2 := by simp [whyQ, hk]
theorem why_last {bs : List Br} {ls : List Int} {ats l : List Nat} {i : Nat} {kind : Int} (hk : kind ≠ 1) (h : ats = l ++ [i]) : whyQ bs ls ats kind = if kind ≠ 2 ∧ lastAt ats = (rowAt bs ls ats).length then 4 else 0 := by
  have hne : ats ≠ [] := by rw [h]; simp
  simp [whyQ, hk, hne, atEnd]

theorem up_moves : Moves 72 2 := by
  intro w C c N rv bs ls ats st key hM hT hs0 hs
  obtain ⟨kv, bv, lv, rs, hS, hC, h1, h2, h3, l1, l2, l3, hR⟩ := hM
  rcases rows_last hT h1 hR with ⟨rfl, rfl⟩ | ⟨rs0, v, rfl, r0, ra, r1, r2, r3, r4, r5, r6⟩
  · refine ⟨fun h => absurd h (by rw [why_none _ _ (by decide)]; decide), fun q hq h0 => ?_⟩
    rw [why_none _ _ (by decide)] at hq
    subst hq
    exact up_none (rs := []) hS
  · have hw := why_last (bs := bs) (ls := ls) (kind := 2) (by decide) ra
    refine ⟨fun _ => ?_, fun q hq h0 => absurd hq.symm (by rw [hw]; simp; exact h0)⟩
    refine (up_ok hS r0).mono ?_
    rintro e w' ⟨rfl, rv', k1, k2⟩
    exact ⟨rfl, rv', k2, 0, by simp [Steps], cum_turn hS hC h1 h2 h3 l1 l2 l3 k2 (by simpa using k1) (by simpa [moved] using r5)⟩

theorem next_moves : Moves 74 3 := by
  intro w C c N rv bs ls ats st key hM hT hs0 hs
  obtain ⟨kv, bv, lv, rs, hS, hC, h1, h2, h3, l1, l2, l3, hR⟩ := hM
  rcases rows_last hT h1 hR with ⟨rfl, rfl⟩ | ⟨rs0, v, rfl, r0, ra, r1, r2, r3, r4, r5, r6⟩
  · refine ⟨fun h => absurd h (by rw [why_none _ _ (by decide)]; decide), fun q hq h0 => ?_⟩
    rw [why_none _ _ (by decide)] at hq
    subst hq
    exact next_none (rs := []) hS
  · have hw := why_last (bs := bs) (ls := ls) (kind := 3) (by decide) ra
    obtain ⟨ka, kc, rfl, _, hm, _⟩ := r1.open'
    by_cases he : lastAt ats = (rowAt bs ls ats).length
    · rw [if_pos ⟨by decide, he⟩] at hw
      refine ⟨fun h => absurd h (by rw [hw]; decide), fun q hq h0 => ?_⟩
      rw [hw] at hq
      subst hq
      exact next_end hS r0 (by omega)
    · rw [if_neg (fun h => he h.2)] at hw
      refine ⟨fun _ => ?_, fun q hq h0 => absurd (hq.symm.trans hw) h0⟩
      refine (next_ok hS r0 (by omega) (by omega) (by unfold maxLen; omega) hs0 hs).mono ?_
      rintro e w' ⟨rfl, k1, k2⟩
      exact ⟨rfl, rv, k2, 1, by simp [Steps], cum_turn hS hC h1 h2 h3 l1 l2 l3 k2 (by simpa using k1) (by simpa [moved] using r6 (lastAt ats + 1) (by omega))⟩

theorem seek_moves : Moves 75 4 := by
  intro w C c N rv bs ls ats st key hM hT hs0 hs
  obtain ⟨kv, bv, lv, rs, hS, hC, h1, h2, h3, l1, l2, l3, hR⟩ := hM
  rcases rows_last hT h1 hR with ⟨rfl, rfl⟩ | ⟨rs0, v, rfl, r0, ra, r1, r2, r3, r4, r5, r6⟩
  · refine ⟨fun h => absurd h (by rw [why_none _ _ (by decide)]; decide), fun q hq h0 => ?_⟩
    rw [why_none _ _ (by decide)] at hq
    subst hq
    exact seek_none (rs := []) hS
  · have hw := why_last (bs := bs) (ls := ls) (kind := 4) (by decide) ra
    by_cases he : lastAt ats = (rowAt bs ls ats).length
    · rw [if_pos ⟨by decide, he⟩] at hw
      refine ⟨fun h => absurd h (by rw [hw]; decide), fun q hq h0 => ?_⟩
      rw [hw] at hq
      subst hq
      obtain ⟨ka, kc, rfl, _, hm, _⟩ := r1.open'
      exact seek_end hS r0 (by omega)
    · rw [if_neg (fun h => he h.2)] at hw
      refine ⟨fun _ => ?_, fun q hq h0 => absurd (hq.symm.trans hw) h0⟩
      refine (seek_ok hS r0 r1 (by omega) r3 (by omega) hs0 hs).mono ?_
      rintro e w' ⟨rfl, looks, k0, k1, k2⟩
      exact ⟨rfl, rv, k2, looks, by simp [Steps]; exact ⟨looks, k0, rfl⟩, cum_turn hS hC h1 h2 h3 l1 l2 l3 k2 k1 (by simpa [moved] using r6 _ (place_le (by omega)))⟩
end Go.Proofs.Ytdfnfdgkhflonaa
