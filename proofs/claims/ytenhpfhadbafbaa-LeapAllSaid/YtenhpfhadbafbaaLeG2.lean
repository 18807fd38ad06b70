/-
  gallop.Seek, Behind, Span, Has, walked, out of seek's contract.
-/
import Derived.Test.YtenhpfhadbafbaaRows
import Derived.WalkKit
import Derived.WalkSpells
import Derived.WalkLawsBesides
import Derived.Deep.QuietTactic
import Derived.BigQuiet
import Derived.Outline
import Derived.Shelf.Abstract
import Derived.Test.YtenhpfhadbafbaaPlain
import Derived.Test.YtenhpfhadbafbaaBase
import Derived.Test.YtenhpfhadbafbaaCuG1
import Derived.Test.YtenhpfhadbafbaaCuSeek
namespace Go.Proofs.Ytenhpfhadbafbaa
open Go.RowKit Go.Shelf
set_option linter.unusedVariables false

theorem rises_climbs {xs : List Int} {i : Nat} {p : Int → Bool} (h : risesB xs = true) (hp : ∀ a b, a ≤ b → p a = true → p b = true) : Climbs xs.length i (fun j => p (xs.getD j 0)) := by
  intro a b _ hab hb
  have ha : a < xs.length := by omega
  simp only [List.getD_eq_getElem?_getD, List.getElem?_eq_getElem ha, List.getElem?_eq_getElem hb, Option.getD_some]
  exact hp _ _ (rises_le h hab hb)
theorem seekEnd_place {w : World} {xs : List Int} {i : Nat} {p : Int → Bool} {en : Ending} {w' : World} (h : SeekEnd w xs.length i (fun j => p (xs.getD j 0)) en w') :
    ∃ looks : Nat, en = .returned (.tuple #[.int .i64 (place xs i p), .int .i64 looks]) ∧ FewR xs.length i (fun j => p (xs.getD j 0)) (place xs i p) looks ∧ Below w.heap.size w w' := by
  obtain ⟨at_, looks, rfl, ⟨h1, h2, h3, h4, h5⟩, hb⟩ := h
  have e : place xs i p = at_ := place_eq h1 h2 (fun j hj hij hja => by have := h3 j hij hja; simpa [List.getElem?_eq_getElem hj] using this) (fun h => by have := h4 h; simpa [List.getElem?_eq_getElem h] using this)
  rw [e]
  exact ⟨looks, rfl, h5, hb⟩
theorem mayB_true {xs : List Int} {i : Int} (h : mayB xs i = true) : risesB xs = true ∧ 0 ≤ i ∧ i ≤ xs.length := by
  simp [mayB] at h; exact ⟨h.1.1, h.1.2, h.2⟩
/-- Is a number at least the key? -/
def geB (key x : Int) : Bool := decide (key ≤ x)
/-- Is a number more than the key? -/
def gtB (key x : Int) : Bool := decide (key < x)
theorem geB_mono (key : Int) : ∀ a b, a ≤ b → geB key a = true → geB key b = true := by intro a b h1 h2; simp [geB] at *; omega
theorem gtB_mono (key : Int) : ∀ a b, a ≤ b → gtB key a = true → gtB key b = true := by intro a b h1 h2; simp [gtB] at *; omega
theorem Enough.later {g B : Nat} {p : Int → Bool} {w w' : World} (h : Enough g B p w) (hb : Below w.heap.size w w') : Enough g B p w' :=
  ⟨h.1, fun x W hW => h.2 x W (hb.trans (hW.mono hb.size))⟩
theorem seek1_enough (key : Int) (B : Nat) (w : World) (hk : w.cell? ⟨B, 0, none⟩ = some (.int .u64 key)) (hB : B < w.heap.size) : Enough 57 B (geB key) w :=
  ⟨enters_of Try.func57 (by kernel_rfl) rfl, fun x W hW => (seek1_any x key B W ((hW.cell (p := ⟨B, 0, none⟩) hB).trans hk)).mono fun e W' ⟨h1, h2⟩ => ⟨h1, h2.symm⟩⟩
/-- What gallop.Seek hands back. -/
def SeekPost (xs : List Int) (i key : Int) (w : World) (e : Ending) (w' : World) : Prop :=
  (if mayB xs i then ∃ looks : Nat, e = .returned (.tuple #[.int .i64 (place xs i.toNat (geB key)), .int .i64 looks, .int .i64 0]) ∧ FewR xs.length i.toNat (fun j => geB key (xs.getD j 0)) (place xs i.toNat (geB key)) looks
   else e = .returned (.tuple #[.int .i64 0, .int .i64 0, .int .i64 2])) ∧ Below w.heap.size w w'

set_option maxHeartbeats 1000000 in
/-- gallop.Seek. -/
theorem Seek_any (v : Value) (xs : List Int) (i key : Int) (w : World) (h : SlI .u64 w v xs) (hl : xs.length ≤ 1099511627776) :
    Calls Try.prog 50 #[v, .int .i64 i, .int .u64 key] w (SeekPost xs i key w) := by
  obtain ⟨a, c, rfl, h1, h2, h3, h4⟩ := h.open
  have hw1 := h.alloc (.cells #[.int .u64 key] 40)
  have hm := may_any _ xs i _ hw1
  clear h1 h2 h3 h4
  by_cases hmay : mayB xs i = true
  · obtain ⟨hr, h0, hi⟩ := mayB_true hmay
    obtain ⟨k, rfl⟩ := Int.eq_ofNat_of_zero_le h0
    rw [hmay] at hm
    have hs := fun n => seek_any _ xs k 57 w.heap.size (geB key) ((w.alloc (.cells #[.int .u64 key] 40)).drewN n) hw1 (by omega) hl
      (seek1_enough key w.heap.size _ (by simp) (by simp)) (rises_climbs hr (geB_mono key))
    have HM := Lib.hid hm
    have HS := Lib.hid hs
    have HMay := Lib.hid hmay
    clear hm hs hmay hw1 h
    go_enter Try.func50, Try.ntmps50
    go_wp2_with fail
    refine HM.out.mono ?_
    rintro e w' ⟨rfl, n, rfl⟩
    go_wp2_with fail
    refine (HS.out n).mono ?_
    intro e w' hE
    obtain ⟨looks, rfl, hf, hb⟩ := seekEnd_place hE
    go_wp2_with fail
    go_ret3
    have e1 : mayB xs k = true := HMay.out
    refine ⟨?_, later_trans (later_alloc w _) (later_trans (later_drewN _ n) hb)⟩
    rw [if_pos e1]
    exact ⟨looks, rfl, hf⟩
  · have hmf : mayB xs i = false := by simpa using hmay
    rw [hmf] at hm
    have HM := Lib.hid hm
    have HMay := Lib.hid hmf
    clear hm hmay hmf hw1 h
    go_enter Try.func50, Try.ntmps50
    go_wp2_with fail
    refine HM.out.mono ?_
    rintro e w' ⟨rfl, n, rfl⟩
    go_wp2_with fail
    go_ret3
    have e1 : mayB xs i = false := HMay.out
    refine ⟨?_, later_trans (later_alloc w _) (later_drewN _ n)⟩
    rw [e1]
    simp
end Go.Proofs.Ytenhpfhadbafbaa
