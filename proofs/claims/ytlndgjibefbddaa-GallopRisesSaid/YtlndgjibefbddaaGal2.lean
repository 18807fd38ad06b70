/-
  gallop.Seek, Behind, Span, Has, walked, out of seek's contract.
-/
import Derived.Test.YtlndgjibefbddaaRows
import Derived.WalkKit
import Derived.WalkSpells
import Derived.WalkLawsBesides
import Derived.Deep.QuietTactic
import Derived.BigQuiet
import Derived.Outline
import Derived.Shelf.Abstract
import Derived.Test.YtlndgjibefbddaaPlain
import Derived.Test.YtlndgjibefbddaaBase
import Derived.Test.YtlndgjibefbddaaGal
import Derived.Test.YtlndgjibefbddaaSeek
namespace Go.Proofs.Ytlndgjibefbddaa
open Go.RowKit Go.Shelf
set_option linter.unusedVariables false

theorem rises_climbs {xs : List Int} {i : Nat} {p : Int → Bool} (h : risesB xs = true) (hp : ∀ a b, a ≤ b → p a = true → p b = true) : Climbs xs.length i (fun j => p (xs.getD j 0)) := by
  intro a b _ hab hb
  have ha : a < xs.length := by omega
  simp only [List.getD_eq_getElem?_getD, List.getElem?_eq_getElem ha, List.getElem?_eq_getElem hb, Option.getD_some]
  exact hp _ _ (rises_le h hab hb)
theorem seekEnd_place {w : World} {xs : List Int} {i : Nat} {p : Int → Bool} {en : Ending} {w' : World} (h : SeekEnd w xs.length i (fun j => p (xs.getD j 0)) en w') :
    ∃ looks : Nat, en = .returned (.tuple #[.int .i64 (place xs i p), .int .i64 looks]) ∧ FewLooks xs.length i (place xs i p) looks ∧ Below w.heap.size w w' := by
  obtain ⟨at_, looks, rfl, ⟨h1, h2, h3, h4, h5⟩, hb⟩ := h
  have e : place xs i p = at_ := place_eq h1 h2 (fun j hj hij hja => by have := h3 j hij hja; simpa [List.getElem?_eq_getElem hj] using this) (fun h => by have := h4 h; simpa [List.getElem?_eq_getElem h] using this)
  rw [e]
  exact ⟨looks, rfl, h5, hb⟩
theorem mayB_true {xs : List Int} {i : Int} (h : mayB xs i = true) : risesB xs = true ∧ 0 ≤ i ∧ i ≤ xs.length := by
  simp [mayB] at h; exact ⟨h.1.1, h.1.2, h.2⟩
/-- Is a number at least the key? -/
def geB (key x : Int) : Bool := decide (key ≤ x)
/-- Is a number more than the key? -/
def gtB (key x : Int) : Bool := decide (key < x)
theorem geB_mono (key : Int) : ∀ a b, a ≤ b → geB key a = true → geB key b = true := by intro a b h1 h2; simp [geB] at *; omega
theorem gtB_mono (key : Int) : ∀ a b, a ≤ b → gtB key a = true → gtB key b = true := by intro a b h1 h2; simp [gtB] at *; omega
theorem Enough.later {g B : Nat} {p : Int → Bool} {w w' : World} (h : Enough g B p w) (hb : Below w.heap.size w w') : Enough g B p w' :=
  ⟨h.1, fun x W hW => h.2 x W (hb.trans (hW.mono hb.size))⟩
theorem seek1_enough (key : Int) (B : Nat) (w : World) (hk : w.cell? ⟨B, 0, none⟩ = some (.int .u64 key)) (hB : B < w.heap.size) : Enough 38 B (geB key) w :=
  ⟨enters_of Try.func38 (by kernel_rfl) rfl, fun x W hW => (seek1_any x key B W ((hW.cell (p := ⟨B, 0, none⟩) hB).trans hk)).mono fun e W' ⟨h1, h2⟩ => ⟨h1, h2.symm⟩⟩
theorem behind1_enough (key : Int) (B : Nat) (w : World) (hk : w.cell? ⟨B, 0, none⟩ = some (.int .u64 key)) (hB : B < w.heap.size) : Enough 39 B (gtB key) w :=
  ⟨enters_of Try.func39 (by kernel_rfl) rfl, fun x W hW => (behind1_any x key B W ((hW.cell (p := ⟨B, 0, none⟩) hB).trans hk)).mono fun e W' ⟨h1, h2⟩ => ⟨h1, h2.symm⟩⟩
theorem meet1_enough (key : Int) (B : Nat) (w : World) (hk : w.cell? ⟨B, 0, none⟩ = some (.int .u64 key)) (hB : B < w.heap.size) : Enough 34 B (geB key) w :=
  ⟨enters_of Try.func34 (by kernel_rfl) rfl, fun x W hW => (meet1_any x key B W ((hW.cell (p := ⟨B, 0, none⟩) hB).trans hk)).mono fun e W' ⟨h1, h2⟩ => ⟨h1, h2.symm⟩⟩
theorem span1_enough (key : Int) (B : Nat) (w : World) (hk : w.cell? ⟨B, 0, none⟩ = some (.int .u64 key)) (hB : B < w.heap.size) : Enough 35 B (geB key) w :=
  ⟨enters_of Try.func35 (by kernel_rfl) rfl, fun x W hW => (span1_any x key B W ((hW.cell (p := ⟨B, 0, none⟩) hB).trans hk)).mono fun e W' ⟨h1, h2⟩ => ⟨h1, h2.symm⟩⟩
theorem span2_enough (key : Int) (B : Nat) (w : World) (hk : w.cell? ⟨B, 0, none⟩ = some (.int .u64 key)) (hB : B < w.heap.size) : Enough 36 B (gtB key) w :=
  ⟨enters_of Try.func36 (by kernel_rfl) rfl, fun x W hW => (span2_any x key B W ((hW.cell (p := ⟨B, 0, none⟩) hB).trans hk)).mono fun e W' ⟨h1, h2⟩ => ⟨h1, h2.symm⟩⟩

/-- What gallop.Seek hands back. -/
def SeekPost (xs : List Int) (i key : Int) (w : World) (e : Ending) (w' : World) : Prop :=
  (if mayB xs i then ∃ looks : Nat, e = .returned (.tuple #[.int .i64 (place xs i.toNat (geB key)), .int .i64 looks, .int .i64 0]) ∧ FewLooks xs.length i.toNat (place xs i.toNat (geB key)) looks
   else e = .returned (.tuple #[.int .i64 0, .int .i64 0, .int .i64 2])) ∧ Below w.heap.size w w'

set_option maxHeartbeats 1000000 in
/-- gallop.Seek. -/
theorem Seek_any (v : Value) (xs : List Int) (i key : Int) (w : World) (h : SlI .u64 w v xs) (hl : xs.length ≤ 1099511627776) :
    Calls Try.prog 24 #[v, .int .i64 i, .int .u64 key] w (SeekPost xs i key w) := by
  obtain ⟨a, c, rfl, h1, h2, h3, h4⟩ := h.open
  have hw1 := h.alloc (.cells #[.int .u64 key] 34)
  have hm := may_any _ xs i _ hw1
  clear h1 h2 h3 h4
  by_cases hmay : mayB xs i = true
  · obtain ⟨hr, h0, hi⟩ := mayB_true hmay
    obtain ⟨k, rfl⟩ := Int.eq_ofNat_of_zero_le h0
    rw [hmay] at hm
    have hs := fun n => seek_any _ xs k 38 w.heap.size (geB key) ((w.alloc (.cells #[.int .u64 key] 34)).drewN n) hw1 (by omega) hl
      (seek1_enough key w.heap.size _ (by simp) (by simp)) (rises_climbs hr (geB_mono key))
    have HM := Lib.hid hm
    have HS := Lib.hid hs
    have HMay := Lib.hid hmay
    clear hm hs hmay hw1 h
    go_enter Try.func24, Try.ntmps24
    go_wp2_with fail
    refine HM.out.mono ?_
    rintro e w' ⟨rfl, n, rfl⟩
    go_wp2_with fail
    refine (HS.out n).mono ?_
    intro e w' hE
    obtain ⟨looks, rfl, hf, hb⟩ := seekEnd_place hE
    go_wp2_with fail
    go_ret3
    have e1 : mayB xs k = true := HMay.out
    refine ⟨?_, later_trans (later_alloc w _) (later_trans (later_drewN _ n) hb)⟩
    rw [if_pos e1]
    exact ⟨looks, rfl, hf⟩
  · have hmf : mayB xs i = false := by simpa using hmay
    rw [hmf] at hm
    have HM := Lib.hid hm
    have HMay := Lib.hid hmf
    clear hm hmay hmf hw1 h
    go_enter Try.func24, Try.ntmps24
    go_wp2_with fail
    refine HM.out.mono ?_
    rintro e w' ⟨rfl, n, rfl⟩
    go_wp2_with fail
    go_ret3
    have e1 : mayB xs i = false := HMay.out
    refine ⟨?_, later_trans (later_alloc w _) (later_drewN _ n)⟩
    rw [e1]
    simp

/-- What gallop.Behind hands back. -/
def BehindPost (xs : List Int) (i key : Int) (w : World) (e : Ending) (w' : World) : Prop :=
  (if mayB xs i then ∃ looks : Nat, e = .returned (.tuple #[.int .i64 (place xs i.toNat (gtB key)), .int .i64 looks, .int .i64 0]) ∧ FewLooks xs.length i.toNat (place xs i.toNat (gtB key)) looks
   else e = .returned (.tuple #[.int .i64 0, .int .i64 0, .int .i64 2])) ∧ Below w.heap.size w w'

set_option maxHeartbeats 1000000 in
/-- gallop.Behind. -/
theorem Behind_any (v : Value) (xs : List Int) (i key : Int) (w : World) (h : SlI .u64 w v xs) (hl : xs.length ≤ 1099511627776) :
    Calls Try.prog 25 #[v, .int .i64 i, .int .u64 key] w (BehindPost xs i key w) := by
  obtain ⟨a, c, rfl, h1, h2, h3, h4⟩ := h.open
  have hw1 := h.alloc (.cells #[.int .u64 key] 34)
  have hm := may_any _ xs i _ hw1
  clear h1 h2 h3 h4
  by_cases hmay : mayB xs i = true
  · obtain ⟨hr, h0, hi⟩ := mayB_true hmay
    obtain ⟨k, rfl⟩ := Int.eq_ofNat_of_zero_le h0
    rw [hmay] at hm
    have hs := fun n => seek_any _ xs k 39 w.heap.size (gtB key) ((w.alloc (.cells #[.int .u64 key] 34)).drewN n) hw1 (by omega) hl
      (behind1_enough key w.heap.size _ (by simp) (by simp)) (rises_climbs hr (gtB_mono key))
    have HM := Lib.hid hm
    have HS := Lib.hid hs
    have HMay := Lib.hid hmay
    clear hm hs hmay hw1 h
    go_enter Try.func25, Try.ntmps25
    go_wp2_with fail
    refine HM.out.mono ?_
    rintro e w' ⟨rfl, n, rfl⟩
    go_wp2_with fail
    refine (HS.out n).mono ?_
    intro e w' hE
    obtain ⟨looks, rfl, hf, hb⟩ := seekEnd_place hE
    go_wp2_with fail
    go_ret3
    have e1 : mayB xs k = true := HMay.out
    refine ⟨?_, later_trans (later_alloc w _) (later_trans (later_drewN _ n) hb)⟩
    rw [if_pos e1]
    exact ⟨looks, rfl, hf⟩
  · have hmf : mayB xs i = false := by simpa using hmay
    rw [hmf] at hm
    have HM := Lib.hid hm
    have HMay := Lib.hid hmf
    clear hm hmay hmf hw1 h
    go_enter Try.func25, Try.ntmps25
    go_wp2_with fail
    refine HM.out.mono ?_
    rintro e w' ⟨rfl, n, rfl⟩
    go_wp2_with fail
    go_ret3
    have e1 : mayB xs i = false := HMay.out
    refine ⟨?_, later_trans (later_alloc w _) (later_drewN _ n)⟩
    rw [e1]
    simp

/-- What gallop.Span hands back. -/
def spanOf (xs : List Int) (low high : Int) : Nat × Nat :=
  if risesB xs && decide (low ≤ high) then (place xs 0 (geB low), place xs (place xs 0 (geB low)) (gtB high)) else (0, 0)

set_option maxHeartbeats 1000000 in
/-- gallop.Span. -/
theorem span_any (v : Value) (xs : List Int) (low high : Int) (w : World) (h : SlI .u64 w v xs) (hl : xs.length ≤ 1099511627776) :
    Calls Try.prog 18 #[v, .int .u64 low, .int .u64 high] w fun e w' => e = .returned (.tuple #[.int .i64 (spanOf xs low high).1, .int .i64 (spanOf xs low high).2]) ∧ Below w.heap.size w w' := by
  obtain ⟨a, c, rfl, h1, h2, h3, h4⟩ := h.open
  obtain ⟨w2, hw2⟩ : ∃ w2, (w.alloc (.cells #[.int .u64 low] 34)).alloc (.cells #[.int .u64 high] 34) = w2 := ⟨_, rfl⟩
  have hb2 : Below w.heap.size w w2 := by rw [← hw2]; exact ((Below.refl _ w).alloc (Nat.le_refl _) _).alloc (by simp) _
  have hc1 : w2.cell? ⟨w.heap.size, 0, none⟩ = some (.int .u64 low) := by rw [← hw2]; simp
  have hc2 : w2.cell? ⟨w.heap.size + 1, 0, none⟩ = some (.int .u64 high) := by rw [← hw2]; simp
  have hsz : w2.heap.size = w.heap.size + 2 := by rw [← hw2]; simp
  have hw1 := h.later hb2
  have hr := rises_any _ xs _ hw1
  clear h1 h2 h3 h4
  cases hri : risesB xs with
  | false =>
    have hsp : spanOf xs low high = (0, 0) := by simp [spanOf, hri]
    rw [hsp]
    rw [hri] at hr
    have HR := Lib.hid hr
    clear hr hsp hri hw1 h
    go_enter Try.func18, Try.ntmps18
    go_wp2_with fail
    refine HR.out.mono ?_
    rintro e w' ⟨rfl, n, rfl⟩
    go_wp2_with fail
    go_ret2
    exact ⟨rfl, later_trans hb2 (later_drewN _ n)⟩
  | true =>
    rw [hri] at hr
    by_cases hlh : low ≤ high
    · obtain ⟨p1, hp1⟩ : ∃ p, place xs 0 (geB low) = p := ⟨_, rfl⟩
      obtain ⟨p2, hp2⟩ : ∃ p, place xs p1 (gtB high) = p := ⟨_, rfl⟩
      have hsp : spanOf xs low high = (p1, p2) := by simp [spanOf, hri, hlh, hp1, hp2]
      have hp1l : p1 ≤ xs.length := by rw [← hp1]; exact place_le (Nat.zero_le _)
      rw [hsp]
      have hs1 := fun n => seek_any _ xs 0 35 w.heap.size (geB low) (w2.drewN n) hw1 (Nat.zero_le _) hl (span1_enough low w.heap.size _ hc1 (by simp; omega)) (rises_climbs hri (geB_mono low))
      have hs2 := fun (w3 : World) (hb : Below w2.heap.size w2 w3) => seek_any _ xs p1 36 (w.heap.size + 1) (gtB high) w3 (hw1.later hb) hp1l hl (span2_enough high (w.heap.size + 1) _ ((hb.cell (p := ⟨w.heap.size + 1, 0, none⟩) (by show w.heap.size + 1 < _; omega)).trans hc2) (by have := hb.size; omega)) (rises_climbs hri (gtB_mono high))
      have HR := Lib.hid hr
      have HS1 := Lib.hid hs1
      have HS2 := Lib.hid hs2
      have HP1 := Lib.hid hp1
      have HP2 := Lib.hid hp2
      clear hr hsp hri hw1 h hs1 hs2 hp1 hp2
      go_enter Try.func18, Try.ntmps18
      go_wp2_with fail
      refine HR.out.mono ?_
      rintro e w' ⟨rfl, n, rfl⟩
      go_wp2_with fail
      refine (HS1.out n).mono ?_
      intro e w3 hE
      obtain ⟨looks, he, _, hb3⟩ := seekEnd_place hE
      rw [HP1.out] at he
      subst he
      have hb23 : Below w2.heap.size w2 w3 := later_trans (later_drewN _ n) hb3
      clear hE
      go_wp2_with fail
      refine (HS2.out w3 hb23).mono ?_
      intro e w4 hE
      obtain ⟨looks2, he, _, hb4⟩ := seekEnd_place hE
      rw [HP2.out] at he
      subst he
      clear hE
      go_wp2_with fail
      go_ret2
      exact ⟨rfl, later_trans hb2 (later_trans hb23 hb4)⟩
    · have hsp : spanOf xs low high = (0, 0) := by simp [spanOf, hlh]
      rw [hsp]
      have HR := Lib.hid hr
      have hlt : high < low := by omega
      clear hr hsp hri hw1 h hlh
      go_enter Try.func18, Try.ntmps18
      go_wp2_with fail
      refine HR.out.mono ?_
      rintro e w' ⟨rfl, n, rfl⟩
      go_wp2_with fail
      go_ret2
      exact ⟨rfl, later_trans hb2 (later_drewN _ n)⟩

/-- Does gallop.Has find a key? -/
def hasOf (xs : List Int) (key : Int) : Bool := decide ((spanOf xs key key).1 < (spanOf xs key key).2)

set_option maxHeartbeats 1000000 in
/-- gallop.Has. -/
theorem has_any (v : Value) (xs : List Int) (key : Int) (w : World) (h : SlI .u64 w v xs) (hl : xs.length ≤ 1099511627776) :
    Calls Try.prog 21 #[v, .int .u64 key] w fun e w' => e = .returned (.bool (hasOf xs key)) ∧ Below w.heap.size w w' := by
  have hs := span_any v xs key key w h hl
  obtain ⟨a, c, rfl, h1, h2, h3, h4⟩ := h.open
  obtain ⟨p1, hp1⟩ : ∃ p, (spanOf xs key key).1 = p := ⟨_, rfl⟩
  obtain ⟨p2, hp2⟩ : ∃ p, (spanOf xs key key).2 = p := ⟨_, rfl⟩
  unfold hasOf
  rw [hp1, hp2] at hs ⊢
  clear hp1 hp2 h h1 h2 h3 h4
  have HS := Lib.hid hs
  clear hs
  go_enter Try.func21, Try.ntmps21
  go_wp2_with fail
  refine HS.out.mono ?_
  rintro e w' ⟨rfl, hb⟩
  go_wp2_with fail
  go_ret
  exact ⟨ret_bool (by simp), hb⟩

end Go.Proofs.Ytlndgjibefbddaa
