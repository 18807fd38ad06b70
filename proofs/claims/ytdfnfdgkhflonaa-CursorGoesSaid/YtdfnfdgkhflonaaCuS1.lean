/-
  The document's answer for the cursor, said plainly: Key, Path, Left, Why, at a place.
-/
import Derived.Test.YtdfnfdgkhflonaaCuR4
import Derived.Test.YtdfnfdgkhflonaaCuR7
namespace Go.Proofs.Ytdfnfdgkhflonaa
open Go.RowKit
set_option linter.unusedVariables false

/-- The places of a place. -/
def PAt (ats : List Nat) (z1 z2 : Int) : Prop := match ats with | [] => True | [i] => z1 = i | [i, j] => z1 = i ∧ z2 = j | _ => False
/-- Places that may be. -/
def AtsOk (bs : List Br) (ls : List Int) (ats : List Nat) : Prop := match ats with | [] => True | [i] => i ≤ bs.length | [i, j] => i < bs.length ∧ j ≤ (leavesOf ls (bs.getD i Br.no)).length | _ => False
theorem CuM.atsOk {w : World} {C : Nat → Prop} {c N : Nat} {rv : Value} {bs : List Br} {ls : List Int} {ats : List Nat} {st : Int} (h : CuM w C c N rv bs ls ats st) : AtsOk bs ls ats := by
  obtain ⟨kv, bv, lv, rs, hS, hC, h1, h2, h3, l1, l2, l3, hR⟩ := h
  match ats, hR with
  | [], _ => trivial
  | [i], hR => exact hR.2
  | [i, j], ⟨a, v2, _, _, _, b⟩ => exact ⟨a, b⟩

section
variable {ab al : Option Addr} {nb cb nl cl : Nat} {w : World} {bs : List Br} {ls : List Int} {ats : List Nat} {z1 z2 le mo : Int}
theorem rowIs1 {d : Int} (hB : SlB w (.slice ab nb cb) bs) (hL : SlI .u64 w (.slice al nl cl) ls) (hT : TrieS bs ls) : RowIs #[.slice ab nb cb, .slice al nl cl, .int .i64 d, .int .i64 0, .int .i64 z1, .int .i64 z2, .int .i64 le, .int .i64 mo] 1 (keysOf bs) w := fun W hW =>
  (row1_any (d := d) (z1 := z1) (z2 := z2) (le := le) (mo := mo) (hB.later hW) (hL.later hW) hT).mono fun e w' ⟨v', k1, k2, k3⟩ => by
    obtain ⟨a, c, rfl⟩ := owns_shape2 k2
    exact ⟨a, c, k1, SlI.of_owns k2 (fun x hx => by obtain ⟨b, hb, rfl⟩ := List.mem_map.1 hx; exact (hB.2 b hb).1), k3⟩
theorem rowIs2 {d : Int} {i : Nat} (hB : SlB w (.slice ab nb cb) bs) (hL : SlI .u64 w (.slice al nl cl) ls) (hT : TrieS bs ls) (hi : i < bs.length) : RowIs #[.slice ab nb cb, .slice al nl cl, .int .i64 d, .int .i64 0, .int .i64 i, .int .i64 z2, .int .i64 le, .int .i64 mo] 2 (leavesOf ls (bs.getD i Br.no)) w := fun W hW =>
  (row2_any (d := d) (z2 := z2) (le := le) (mo := mo) (hB.later hW) (hL.later hW) hT hi).mono fun e w' ⟨v', k1, k2, k3⟩ => by
    obtain ⟨a, c, rfl⟩ := owns_shape2 k2
    have hg : bs.getD i Br.no = bs[i] := by simp [List.getD, List.getElem?_eq_getElem hi]
    rw [hg]
    exact ⟨a, c, k1, SlI.of_owns k2 (fun x hx => hL.2 x (List.mem_of_mem_drop (List.mem_of_mem_take hx))), k3⟩
theorem leaves_short (hT : TrieS bs ls) {i : Nat} (hi : i < bs.length) : (leavesOf ls (bs.getD i Br.no)).length ≤ 1048576 := by
  obtain ⟨f, t, hf, ht, hft, htl, hle, hll⟩ := hT.at hi
  have := hT.ok.1
  omega

/-- A place as a value. -/
abbrev pl8 (ab al : Option Addr) (nb cb nl cl : Nat) (ats : List Nat) (z1 z2 le mo : Int) : Array Value := #[.slice ab nb cb, .slice al nl cl, .int .i64 (ats.length : Int), .int .i64 0, .int .i64 z1, .int .i64 z2, .int .i64 le, .int .i64 mo]

theorem end8_any (hB : SlB w (.slice ab nb cb) bs) (hL : SlI .u64 w (.slice al nl cl) ls) (hT : TrieS bs ls) (hA : AtsOk bs ls ats) (hP : PAt ats z1 z2) :
    Calls Try.prog 104 #[.agg (pl8 ab al nb cb nl cl ats z1 z2 le mo)] w fun e w' => e = .returned (.bool (atEnd bs ls ats)) ∧ Below w.heap.size w w' := by
  match ats, hA, hP with
  | [], _, _ => exact end0_any
  | [i], hA, hP =>
    have := end1_any (r := i) (z2 := z2) (le := le) (mo := mo) (z1 := z1) (rowIs1 hB hL hT) hP (by rw [keysOf_len]; exact hT.few)
    rw [show atEnd bs ls [i] = decide (i = (keysOf bs).length) from by rw [Bool.eq_iff_iff]; simp [atEnd, lastAt, rowAt]; try exact decide_eq_true_iff]
    exact this
  | [i, j], hA, hP =>
    have hz2 := hP.2
    have hz1 := hP.1
    subst hz1
    have := end2_any (r := j) (z2 := z2) (le := le) (mo := mo) (rowIs2 (d := 2) hB hL hT hA.1) hz2 (leaves_short hT hA.1)
    rw [show atEnd bs ls [i, j] = decide (j = (leavesOf ls (bs.getD i Br.no)).length) from by rw [Bool.eq_iff_iff]; simp [atEnd, lastAt, rowAt]; try exact decide_eq_true_iff]
    exact this
theorem key8_any (hB : SlB w (.slice ab nb cb) bs) (hL : SlI .u64 w (.slice al nl cl) ls) (hT : TrieS bs ls) (hA : AtsOk bs ls ats) (hP : PAt ats z1 z2) :
    Calls Try.prog 62 #[.agg (pl8 ab al nb cb nl cl ats z1 z2 le mo)] w fun e w' => e = .returned (.tuple #[.int .u64 (keyOf bs ls ats), .bool (isKey bs ls ats)]) ∧ Below w.heap.size w w' := by
  match ats, hA, hP with
  | [], _, _ => exact key0_any
  | [i], hA, hP => exact key1_any (r := i) (rowIs1 hB hL hT) hP (by show (keysOf bs).length ≤ _; rw [keysOf_len]; exact hT.few) (by show i ≤ (keysOf bs).length; rw [keysOf_len]; exact hA)
  | [i, j], hA, hP =>
    have hz2 := hP.2
    have hz1 := hP.1
    subst hz1
    exact key2_any (r := j) (rowIs2 (d := 2) hB hL hT hA.1) hz2 (leaves_short hT hA.1) hA.2
theorem left8_any (hB : SlB w (.slice ab nb cb) bs) (hL : SlI .u64 w (.slice al nl cl) ls) (hT : TrieS bs ls) (hA : AtsOk bs ls ats) (hP : PAt ats z1 z2) :
    Calls Try.prog 64 #[.agg (pl8 ab al nb cb nl cl ats z1 z2 le mo)] w fun e w' => e = .returned (.int .i64 (leftOf bs ls ats : Nat)) ∧ Below w.heap.size w w' := by
  match ats, hA, hP with
  | [], _, _ => exact left0_any
  | [i], hA, hP => exact left1_any (r := i) (rowIs1 hB hL hT) hP (by show (keysOf bs).length ≤ _; rw [keysOf_len]; exact hT.few) (by show i ≤ (keysOf bs).length; rw [keysOf_len]; exact hA)
  | [i, j], hA, hP =>
    have hz2 := hP.2
    have hz1 := hP.1
    subst hz1
    exact left2_any (r := j) (rowIs2 (d := 2) hB hL hT hA.1) hz2 (leaves_short hT hA.1) hA.2
theorem path_step {xs : List Int} {r : Nat} {l : List (List Int × Nat)} : (∀ h : r < xs.length, pathR (l ++ [(xs, r)]) = pathR l ++ [xs[r]]) ∧ (¬ r < xs.length → pathR (l ++ [(xs, r)]) = pathR l) := by
  refine ⟨fun h => ?_, fun h => ?_⟩
  · simp [pathR, List.take_one, List.head?_drop, List.getElem?_eq_getElem h]
  · simp [pathR, List.take_one, List.head?_drop, List.getElem?_eq_none (show xs.length ≤ r by omega)]
theorem path8_any (hB : SlB w (.slice ab nb cb) bs) (hL : SlI .u64 w (.slice al nl cl) ls) (hT : TrieS bs ls) (hA : AtsOk bs ls ats) (hP : PAt ats z1 z2) :
    Calls Try.prog 63 #[.agg (pl8 ab al nb cb nl cl ats z1 z2 le mo)] w fun e w' => ∃ v', e = .returned v' ∧ w'.ownsRow w.heap.size 38 1 v' (pathOf bs ls ats).length ((pathOf bs ls ats).map (.int .u64)) ∧ Below w.heap.size w w' := by
  match ats, hA, hP with
  | [], _, _ => exact path08_any (d := 0) (rows := []) (by omega) rfl (fun k h1 h2 => by omega)
  | [i], hA, hP =>
    refine path08_any (d := 1) (rows := [(keysOf bs, i)]) (by omega) rfl (fun k h1 h2 => ?_)
    obtain rfl : k = 1 := by omega
    exact ⟨keysOf bs, i, rowIs1 hB hL hT, hP, by rw [keysOf_len]; exact hT.few, path_step (l := [])⟩
  | [i, j], hA, hP =>
    obtain ⟨rfl, rfl⟩ := hP
    refine path08_any (d := 2) (rows := [(keysOf bs, i), (leavesOf ls (bs.getD i Br.no), j)]) (by omega) rfl (fun k h1 h2 => ?_)
    have hk : k = 1 ∨ k = 2 := by omega
    rcases hk with rfl | rfl
    · exact ⟨keysOf bs, i, rowIs1 hB hL hT, rfl, by rw [keysOf_len]; exact hT.few, path_step (l := [])⟩
    · exact ⟨leavesOf ls (bs.getD i Br.no), j, rowIs2 hB hL hT hA.1, rfl, leaves_short hT hA.1, path_step (l := [(keysOf bs, i)])⟩
theorem why8_same {kind : Int} (hA : AtsOk bs ls ats) : why8 ats.length (atEnd bs ls ats) kind = whyM bs ls ats kind := by
  unfold why8 whyM whyQ
  simp only [List.length_eq_zero_iff]
theorem why8_any {kind key : Int} (hB : SlB w (.slice ab nb cb) bs) (hL : SlI .u64 w (.slice al nl cl) ls) (hT : TrieS bs ls) (hA : AtsOk bs ls ats) (hP : PAt ats z1 z2) :
    Calls Try.prog 65 #[.agg (pl8 ab al nb cb nl cl ats z1 z2 le mo), .agg #[.int .i64 kind, .int .u64 key]] w fun e w' => e = .returned (.int .i64 (whyM bs ls ats kind)) ∧ Below w.heap.size w w' := by
  rw [← why8_same hA]
  exact why08_any (fun W hW => end8_any (hB.later hW) (hL.later hW) hT hA hP)
end

/-- What stands keeps: the cursor, the place in its box, the place's trie. -/
def StW (B X : Nat) (w : World) (c : Nat) (bs : List Br) (ls : List Int) (ats : List Nat) (st : Int) (p : Array Value) (vb vl : Value) (W : World) : Prop :=
  Cur1 B W c bs ls ats st ∧ Below w.heap.size w W ∧ W.heap[X]? = some (.cells p 36 (0, 0)) ∧ SlB W vb bs ∧ SlI .u64 W vl ls
theorem StW.later {B X : Nat} {w W W' : World} {c : Nat} {bs : List Br} {ls : List Int} {ats : List Nat} {st : Int} {p : Array Value} {vb vl : Value} (h : StW B X w c bs ls ats st p vb vl W) (hb : Below W.heap.size W W') : StW B X w c bs ls ats st p vb vl W' := by
  obtain ⟨h1, h2, h3, h4, h5⟩ := h
  exact ⟨h1.later hb, later_trans h2 hb, (hb.block X (lt_of_block h3)).trans h3, h4.later hb, h5.later hb⟩

set_option maxRecDepth 100000 in
set_option maxHeartbeats 8000000 in
theorem stands_any {B : Nat} {w : World} {c : Nat} {bs : List Br} {ls : List Int} {ats : List Nat} {st : Int} {ab al : Option Addr} {nb cb nl cl : Nat} {z1 z2 le mo : Int} (h : Cur1 B w c bs ls ats st) (hB : SlB w (.slice ab nb cb) bs) (hL : SlI .u64 w (.slice al nl cl) ls) (hT : TrieS bs ls) (hA : AtsOk bs ls ats) (hP : PAt ats z1 z2) (hle : le ≤ st) (hmo : st ≤ mo) :
    Calls Try.prog 17 #[.pointer (some ⟨c, 0, none⟩), .agg (pl8 ab al nb cb nl cl ats z1 z2 le mo)] w fun e w' => e = .returned (.bool true) ∧ Below w.heap.size w w' := by
  have h0 := Lib.hid (show StW B w.heap.size w c bs ls ats st (pl8 ab al nb cb nl cl ats z1 z2 le mo) (.slice ab nb cb) (.slice al nl cl) (w.alloc (.cells (pl8 ab al nb cb nl cl ats z1 z2 le mo) 36)) from ⟨h.later (later_alloc w _), later_alloc w _, box_new w _ _, hB.later (later_alloc w _), hL.later (later_alloc w _)⟩)
  have HT := Lib.hid hT
  have HA := Lib.hid hA
  have HP := Lib.hid hP
  unfold pl8 at h0 ⊢
  clear h hB hL hT hA hP
  go_enter Try.func17, Try.ntmps17
  go_wp2_with fail
  refine (Key1 h0.out.1 HT.out).mono ?_
  rintro e w1 ⟨rfl, j, hw⟩
  have h1 := Lib.hid (h0.out.later (W' := w1) (by rw [hw]; exact later_drewN _ j))
  obtain ⟨x0, x1, x2, x3, x4, x5, x6, x7⟩ := box8 h1.out.2.2.1
  clear h0 hw
  go_wp2_with fail
  refine (key8_any (z1 := z1) (z2 := z2) (le := le) (mo := mo) h1.out.2.2.2.1 h1.out.2.2.2.2 HT.out HA.out HP.out).mono ?_
  rintro e w2 ⟨rfl, hb2⟩
  have h2 := Lib.hid (h1.out.later hb2)
  have hwf := Lib.hid (path_wf h1.out.1)
  clear h1 hb2 x0 x1 x2 x3 x4 x5 x6 x7
  obtain ⟨x0, x1, x2, x3, x4, x5, x6, x7⟩ := box8 h2.out.2.2.1
  go_wp2_with fail
  go_region_held3 (fun W => W.cell? ⟨w.heap.size, 0, none⟩ = some (.slice ab nb cb) ∧ W.cell? ⟨w.heap.size, 1, none⟩ = some (.slice al nl cl) ∧ W.cell? ⟨w.heap.size, 2, none⟩ = some (.int .i64 (ats.length : Int)) ∧ W.cell? ⟨w.heap.size, 3, none⟩ = some (.int .i64 0) ∧ W.cell? ⟨w.heap.size, 4, none⟩ = some (.int .i64 z1) ∧ W.cell? ⟨w.heap.size, 5, none⟩ = some (.int .i64 z2) ∧ W.cell? ⟨w.heap.size, 6, none⟩ = some (.int .i64 le) ∧ W.cell? ⟨w.heap.size, 7, none⟩ = some (.int .i64 mo))
    (first | exact ⟨x0, x1, x2, x3, x4, x5, x6, x7⟩ | exact box8 h3.out.2.2.1 | exact box8 h4.out.2.2.1 | exact box8 h5.out.2.2.1 | exact box8 h6.out.2.2.1 | exact box8 h7.out.2.2.1 | assumption)
    (first
      | (go_at_call 22; refine (Depth1 (h2.out.later (later_drew _)).1).mono ?_; rintro e wD ⟨rfl, rfl⟩)
      | (go_at_call 21; refine (Path1 (h2.out.later (later_drew _)).1).mono ?_; rintro e w3 ⟨v3, rfl, o3, hb3⟩; have h3 := Lib.hid (h2.out.later (later_trans (later_drew _) hb3)))
      | (go_at_call 63; refine (path8_any (z1 := z1) (z2 := z2) (le := le) (mo := mo) h3.out.2.2.2.1 h3.out.2.2.2.2 HT.out HA.out HP.out).mono ?_; rintro e w4 ⟨v4, rfl, o4, hb4⟩; have h4 := Lib.hid (h3.out.later hb4); have o34 := owns_later o3 hb4)
      | (go_at_call 24; refine (equal_any _ _ _ _ w4 (sli_path o34 hwf.out) (sli_path o4 hwf.out)).mono ?_; rintro e w5 ⟨rfl, j, hw⟩; rw [decide_eq_true (rfl : pathOf bs ls ats = pathOf bs ls ats)]; have h5 := Lib.hid (h4.out.later (W' := w5) (by rw [hw]; exact later_drewN _ j)); clear hw)
      | (go_at_call 23; refine (Left1 h5.out.1 HT.out).mono ?_; rintro e w6 ⟨rfl, j, hw⟩; have h6 := Lib.hid (h5.out.later (W' := w6) (by rw [hw]; exact later_drewN _ j)); clear hw)
      | (go_at_call 64; refine (left8_any (z1 := z1) (z2 := z2) (le := le) (mo := mo) h6.out.2.2.2.1 h6.out.2.2.2.2 HT.out HA.out HP.out).mono ?_; rintro e w7 ⟨rfl, hb7⟩; have h7 := Lib.hid (h6.out.later hb7); clear hb7)
      | (go_at_call 19; refine (Steps1 h7.out.1).mono ?_; rintro e wS ⟨rfl, rfl⟩))
  go_wp2
  go_ret
  exact ⟨rfl, h7.out.2.1⟩

theorem ats_cases {bs : List Br} {ls : List Int} {ats : List Nat} (hA : AtsOk bs ls ats) : ats = [] ∨ (∃ i, ats = [i]) ∨ ∃ i j, ats = [i, j] := by
  match ats, hA with
  | [], _ => exact .inl rfl
  | [i], _ => exact .inr (.inl ⟨i, rfl⟩)
  | [i, j], _ => exact .inr (.inr ⟨i, j, rfl⟩)
/-- What the document's Move hands back. -/
def Moved8 (ab al : Option Addr) (nb cb nl cl : Nat) (bs : List Br) (ls : List Int) (ats : List Nat) (z1 z2 le mo kind key : Int) (e : Ending) : Prop :=
  ∃ ats' y1 y2 le' mo', e = .returned (.tuple #[.agg (pl8 ab al nb cb nl cl ats' y1 y2 le' mo'), .int .i64 (whyM bs ls ats kind)]) ∧ PAt ats' y1 y2 ∧ 0 ≤ le' ∧ le' ≤ le + 1 ∧ 0 ≤ mo' ∧ mo' ≤ mo + 2000 ∧
    (whyM bs ls ats kind ≠ 0 → ats' = ats ∧ le' = le ∧ mo' = mo) ∧
    (whyM bs ls ats kind = 0 → ats' = moved bs ls kind key ats ∧ ∀ n st, Steps bs ls kind key ats n → le ≤ st → st ≤ mo → le' ≤ st + n ∧ st + n ≤ mo')
section
variable {ab al : Option Addr} {nb cb nl cl : Nat} {w : World} {bs : List Br} {ls : List Int} {ats : List Nat} {z1 z2 le mo kind key : Int}
set_option maxRecDepth 100000 in
set_option maxHeartbeats 2000000 in
theorem move8_any (hB : SlB w (.slice ab nb cb) bs) (hL : SlI .u64 w (.slice al nl cl) ls) (hT : TrieS bs ls) (hA : AtsOk bs ls ats) (hP : PAt ats z1 z2) (hl0 : 0 ≤ le) (hl1 : le ≤ 1000000) (hm0 : 0 ≤ mo) (hm1 : mo ≤ 1000000) :
    Calls Try.prog 18 #[.agg (pl8 ab al nb cb nl cl ats z1 z2 le mo), .agg #[.int .i64 kind, .int .u64 key]] w fun e w' => Moved8 ab al nb cb nl cl bs ls ats z1 z2 le mo kind key e ∧ Below w.heap.size w w' := by
  have hW : WhyIs (pl8 ab al nb cb nl cl ats z1 z2 le mo) kind key (whyM bs ls ats kind) w := fun W hb => why8_any (hB.later hb) (hL.later hb) hT hA hP
  by_cases hq : whyM bs ls ats kind = 0
  · have hk : 1 ≤ kind ∧ kind ≤ 4 := by
      unfold whyM at hq
      split at hq
      · cases hq
      · omega
    have hqq : whyQ bs ls ats kind = 0 := by rw [show whyM bs ls ats kind = whyQ bs ls ats kind from if_neg (by omega)] at hq; exact hq
    rw [hq] at hW
    have hk4 : kind = 1 ∨ kind = 2 ∨ kind = 3 ∨ kind = 4 := by omega
    rcases hk4 with rfl | rfl | rfl | rfl
    · rcases ats_cases hA with rfl | ⟨i, rfl⟩ | ⟨i, j, rfl⟩
      · skip
        refine (move08_open0 (z1 := z1) (z2 := z2) (key := key) hW hl0 hl1 hm0 hm1).mono fun e w' ⟨k1, k2⟩ => ⟨⟨[0], 0, z2, le + 1, mo + 1, by rw [hq]; exact k1, rfl, by omega, by omega, by omega, by omega, fun h => absurd hq h, fun _ => ⟨by simp [moved], fun n st hn h1 h2 => ?_⟩⟩, k2⟩
        have hn : n = 1 := by simpa [Steps] using hn
        omega
      · skip
        refine (move08_open1 (z1 := z1) (z2 := z2) (key := key) hW hl0 hl1 hm0 hm1).mono fun e w' ⟨k1, k2⟩ => ⟨⟨[i, 0], z1, 0, le + 1, mo + 1, by rw [hq]; exact k1, ⟨hP, rfl⟩, by omega, by omega, by omega, by omega, fun h => absurd hq h, fun _ => ⟨by simp [moved], fun n st hn h1 h2 => ?_⟩⟩, k2⟩
        have hn : n = 1 := by simpa [Steps] using hn
        omega
      · exact absurd hqq (by simp [whyQ])
    · rcases ats_cases hA with rfl | ⟨i, rfl⟩ | ⟨i, j, rfl⟩
      · exact absurd hqq (by simp [whyQ])
      · skip
        refine (move08_up1 (z1 := z1) (z2 := z2) (key := key) hW hl0 hl1 hm0 hm1).mono fun e w' ⟨k1, k2⟩ => ⟨⟨[], z1, z2, le, mo, by rw [hq]; exact k1, trivial, by omega, by omega, by omega, by omega, fun h => absurd hq h, fun _ => ⟨by simp [moved], fun n st hn h1 h2 => ?_⟩⟩, k2⟩
        have hn : n = 0 := by simpa [Steps] using hn
        omega
      · skip
        refine (move08_up2 (z1 := z1) (z2 := z2) (key := key) hW hl0 hl1 hm0 hm1).mono fun e w' ⟨k1, k2⟩ => ⟨⟨[i], z1, z2, le, mo, by rw [hq]; exact k1, hP.1, by omega, by omega, by omega, by omega, fun h => absurd hq h, fun _ => ⟨by simp [moved], fun n st hn h1 h2 => ?_⟩⟩, k2⟩
        have hn : n = 0 := by simpa [Steps] using hn
        omega
    · rcases ats_cases hA with rfl | ⟨i, rfl⟩ | ⟨i, j, rfl⟩
      · exact absurd hqq (by simp [whyQ])
      · skip
        have hz : z1 = (i : Int) := hP
        have hi : i ≤ bs.length := hA
        have hf := hT.few
        refine (move08_next1 (z1 := z1) (z2 := z2) (key := key) (by omega) (by omega) hW hl0 hl1 hm0 hm1).mono fun e w' ⟨k1, k2⟩ => ⟨⟨[i + 1], z1 + 1, z2, le + 1, mo + 1, by rw [hq]; exact k1, (by show z1 + 1 = ((i + 1 : Nat) : Int); omega), by omega, by omega, by omega, by omega, fun h => absurd hq h, fun _ => ⟨by simp [moved, lastAt], fun n st hn h1 h2 => ?_⟩⟩, k2⟩
        have hn : n = 1 := by simpa [Steps] using hn
        omega
      · skip
        have hz : z2 = (j : Int) := hP.2
        have hi : j ≤ (leavesOf ls (bs.getD i Br.no)).length := hA.2
        have hf := leaves_short hT hA.1
        refine (move08_next2 (z1 := z1) (z2 := z2) (key := key) (by omega) (by omega) hW hl0 hl1 hm0 hm1).mono fun e w' ⟨k1, k2⟩ => ⟨⟨[i, j + 1], z1, z2 + 1, le + 1, mo + 1, by rw [hq]; exact k1, ⟨hP.1, (by show z2 + 1 = ((j + 1 : Nat) : Int); omega)⟩, by omega, by omega, by omega, by omega, fun h => absurd hq h, fun _ => ⟨by simp [moved, lastAt], fun n st hn h1 h2 => ?_⟩⟩, k2⟩
        have hn : n = 1 := by simpa [Steps] using hn
        omega
    · rcases ats_cases hA with rfl | ⟨i, rfl⟩ | ⟨i, j, rfl⟩
      · exact absurd hqq (by simp [whyQ])
      · skip
        have hz : z1 = (i : Int) := hP
        subst hz
        have hi : i ≤ (keysOf bs).length := by rw [keysOf_len]; exact hA
        have hlt : i < (keysOf bs).length := by
          have h5 := why_last (bs := bs) (ls := ls) (ats := [i]) (l := []) (i := i) (kind := 4) (by decide) rfl
          rw [hqq] at h5
          by_cases he : i = (keysOf bs).length
          · rw [if_pos ⟨by decide, he⟩] at h5; cases h5
          · omega
        have hple : place (keysOf bs) i (geB key) ≤ (keysOf bs).length := place_le hi
        have hplg : i ≤ place (keysOf bs) i (geB key) := place_ge
        have hxl : (keysOf bs).length ≤ 1048576 := by rw [keysOf_len]; exact hT.few
        have hlg := lg_le (1 + (place (keysOf bs) i (geB key) : Int) - i) (by omega)
        refine (move08_seek1 (z2 := z2) (key := key) (r := i) (xs := keysOf bs) hW (rowIs1 hB hL hT) hi hxl hl0 hl1 hm0 hm1).mono fun e w' ⟨k1, k2⟩ => ⟨⟨[place (keysOf bs) i (geB key)], _, z2, le + 1, _, by rw [hq]; exact k1, rfl, by omega, by omega, by omega, by omega, fun h => absurd hq h, fun _ => ⟨by simp [moved, lastAt, rowAt], fun n st hn h1 h2 => ?_⟩⟩, k2⟩
        obtain ⟨looks, ⟨hfew, -⟩, rfl⟩ : ∃ looks : Nat, FewR (keysOf bs).length i (fun j => geB key ((keysOf bs).getD j 0)) (place (keysOf bs) i (geB key)) looks ∧ n = looks := hn
        have := hfew.2 hlt
        omega
      · skip
        have hz2 := hP.2
        have hz1 := hP.1
        subst hz1
        subst hz2
        obtain ⟨xs, hxs⟩ : ∃ xs, leavesOf ls (bs.getD i Br.no) = xs := ⟨_, rfl⟩
        have hj : j ≤ xs.length := by rw [← hxs]; exact hA.2
        have hlt : j < xs.length := by
          have h5 := why_last (bs := bs) (ls := ls) (ats := [i, j]) (l := [i]) (i := j) (kind := 4) (by decide) rfl
          rw [hqq] at h5
          by_cases he : j = xs.length
          · rw [if_pos ⟨by decide, (by show j = (leavesOf ls (bs.getD i Br.no)).length; rw [hxs]; exact he)⟩] at h5; cases h5
          · omega
        have hple : place xs j (geB key) ≤ xs.length := place_le hj
        have hplg : j ≤ place xs j (geB key) := place_ge
        have hxl : xs.length ≤ 1048576 := by rw [← hxs]; exact leaves_short hT hA.1
        have hlg := lg_le (1 + (place xs j (geB key) : Int) - j) (by omega)
        refine (move08_seek2 (z1 := (i : Int)) (key := key) (r := j) (xs := xs) hW (by rw [← hxs]; exact rowIs2 hB hL hT hA.1) hj hxl hl0 hl1 hm0 hm1).mono fun e w' ⟨k1, k2⟩ => ⟨⟨[i, place xs j (geB key)], (i : Int), _, le + 1, _, by rw [hq]; exact k1, ⟨rfl, rfl⟩, by omega, by omega, by omega, by omega, fun h => absurd hq h, fun _ => ⟨by simp [moved, lastAt, rowAt, ← hxs], fun n st hn h1 h2 => ?_⟩⟩, k2⟩
        obtain ⟨looks, ⟨hfew, -⟩, rfl⟩ : ∃ looks : Nat, FewR (leavesOf ls (bs.getD i Br.no)).length j (fun k => geB key ((leavesOf ls (bs.getD i Br.no)).getD k 0)) (place (leavesOf ls (bs.getD i Br.no)) j (geB key)) looks ∧ n = looks := hn
        rw [hxs] at hfew
        have := hfew.2 hlt
        omega
  · refine (move08_err (d := ats.length) hW hq).mono fun e w' ⟨k1, k2⟩ => ⟨⟨ats, z1, z2, le, mo, k1, hP, by omega, by omega, by omega, by omega, fun _ => ⟨rfl, rfl, rfl⟩, fun h => absurd h hq⟩, k2⟩
end
end Go.Proofs.Ytdfnfdgkhflonaa
