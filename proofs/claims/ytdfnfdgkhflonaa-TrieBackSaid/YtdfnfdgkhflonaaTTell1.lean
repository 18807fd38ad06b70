/-
  Keys and Has at whatever path, trie's and the document's.
-/
import Derived.Test.YtdfnfdgkhflonaaTTellP
import Derived.Test.YtdfnfdgkhflonaaTKeys2
import Derived.Test.YtdfnfdgkhflonaaTHas2
import Derived.Test.YtdfnfdgkhflonaaTHas3
import Derived.Test.YtdfnfdgkhflonaaTRefKeys
import Derived.Test.YtdfnfdgkhflonaaTRefKeys1
import Derived.Test.YtdfnfdgkhflonaaTRefHas
namespace Go.Proofs.Ytdfnfdgkhflonaa
open Go.RowKit
set_option linter.unusedVariables false

/-- What is known of a trie: itself if it may be, else nothing. -/
def Known (B Bk : List Br) (L Lk : List Int) : Prop := TrieOk Bk Lk ∧ (TrieOk B L → Bk = B ∧ Lk = L) ∧ (¬ TrieOk B L → Bk = [] ∧ Lk = [])

theorem path_one {w : World} {v : Value} {k : Int} (h : SlI .u64 w v [k]) : ∃ b o c, v = .slice (some ⟨b, o, none⟩) 1 c ∧ w.cell? ⟨b, o, none⟩ = some (.int .u64 k) := by
  obtain ⟨a, c, rfl, h1, h2, h3, h4⟩ := h.open
  obtain ⟨b, o, rfl, hb, hc⟩ := h4 (by simp)
  exact ⟨b, o, c, rfl, by simpa using hc 0 (by simp)⟩
theorem path_two {w : World} {v : Value} {k l : Int} (h : SlI .u64 w v [k, l]) : ∃ b o c, v = .slice (some ⟨b, o, none⟩) 2 c ∧ w.cell? ⟨b, o, none⟩ = some (.int .u64 k) ∧ w.cell? ⟨b, o + 1, none⟩ = some (.int .u64 l) := by
  obtain ⟨a, c, rfl, h1, h2, h3, h4⟩ := h.open
  obtain ⟨b, o, rfl, hb, hc⟩ := h4 (by simp)
  exact ⟨b, o, c, rfl, by simpa using hc 0 (by simp), by simpa using hc 1 (by simp)⟩
theorem path_any {w : World} {v : Value} {xs : List Int} (h : SlI .u64 w v xs) : ∃ a c, v = .slice a xs.length c ∧ xs.length ≤ 9223372036854775807 := by
  obtain ⟨a, c, rfl, h1, h2, h3, h4⟩ := h.open
  exact ⟨a, c, rfl, by omega⟩

theorem keysAll_any (vb vl vp : Value) (B Bk : List Br) (L Lk : List Int) (p : List Int) (w : World) (hB : SlB w vb B) (hL : SlI .u64 w vl L) (hp : SlI .u64 w vp p) (hk : Known B Bk L Lk) (hl : B.length ≤ 1099511627776) :
    Calls Try.prog 42 #[.agg #[vb, vl], vp] w fun e w' => ∃ v', e = .returned v' ∧ w'.ownsRow w.heap.size 38 1 v' (keysL Bk Lk p).length ((keysL Bk Lk p).map (.int .u64)) ∧ Below w.heap.size w w' := by
  have hnil : ∀ w' : World, w'.ownsRow w.heap.size 38 1 (.slice none 0 0) 0 [] := fun w' => World.ownsRow_nil _ _ _ _
  by_cases ht : TrieOk B L
  · obtain ⟨rfl, rfl⟩ := hk.2.1 ht
    match p with
    | [] =>
      obtain ⟨a, c, rfl, -⟩ := path_any hp
      refine (keys0_any vb vl a c Bk Lk w hB hL ht hl).mono ?_
      rintro e w' ⟨⟨v', rfl, ho⟩, hb⟩
      exact ⟨v', rfl, ho, hb⟩
    | [k] =>
      obtain ⟨b, o, c, rfl, hc⟩ := path_one hp
      exact keys1_any vb vl b o c Bk Lk k w hB hL ht hl hc
    | [k, l] =>
      obtain ⟨a, c, rfl, -⟩ := path_any hp
      refine (keys2_any vb vl a c Bk Lk w hB hL ht hl).mono ?_
      rintro e w' ⟨rfl, hb⟩
      exact ⟨_, rfl, hnil w', hb⟩
    | k :: l :: m :: r =>
      obtain ⟨a, c, rfl, hn⟩ := path_any hp
      refine (keysNo_any vb vl a _ c Bk Lk w hB hL (.inr (by simp)) hn).mono ?_
      rintro e w' ⟨rfl, hb⟩
      exact ⟨_, rfl, hnil w', hb⟩
  · obtain ⟨rfl, rfl⟩ := hk.2.2 ht
    obtain ⟨a, c, rfl, hn⟩ := path_any hp
    refine (keysNo_any vb vl a _ c B L w hB hL (.inl ht) hn).mono ?_
    rintro e w' ⟨rfl, hb⟩
    refine ⟨_, rfl, ?_, hb⟩
    rw [keysL_nil]
    exact hnil w'

theorem hasAll_any (vb vl vp : Value) (B Bk : List Br) (L Lk : List Int) (p : List Int) (w : World) (hB : SlB w vb B) (hL : SlI .u64 w vl L) (hp : SlI .u64 w vp p) (hk : Known B Bk L Lk) (hl : B.length ≤ 1099511627776) :
    Calls Try.prog 44 #[.agg #[vb, vl], vp] w fun e w' => e = .returned (.bool (hasL Bk Lk p)) ∧ Below w.heap.size w w' := by
  by_cases ht : TrieOk B L
  · obtain ⟨rfl, rfl⟩ := hk.2.1 ht
    match p with
    | [] =>
      obtain ⟨a, c, rfl, -⟩ := path_any hp
      exact has0_any vb vl a c Bk Lk w hB hL ht
    | [k] =>
      obtain ⟨b, o, c, rfl, hc⟩ := path_one hp
      exact has1_any vb vl b o c Bk Lk k w hB hL ht hl hc
    | [k, l] =>
      obtain ⟨b, o, c, rfl, hc, hd⟩ := path_two hp
      exact has2_any vb vl b o c Bk Lk k l w hB hL ht hl hc hd
    | k :: l :: m :: r =>
      obtain ⟨a, c, rfl, hn⟩ := path_any hp
      exact hasNo_any vb vl a _ c Bk Lk w hB hL (.inr (by simp)) hn
  · obtain ⟨rfl, rfl⟩ := hk.2.2 ht
    obtain ⟨a, c, rfl, hn⟩ := path_any hp
    refine (hasNo_any vb vl a _ c B L w hB hL (.inl ht) hn).mono ?_
    rintro e w' ⟨rfl, hb⟩
    exact ⟨by rw [hasL_nil], hb⟩

theorem refkeysAll_any (vb vl vp : Value) (B : List Br) (L : List Int) (p : List Int) (w : World) (hB : SlB w vb B) (hL : SlI .u64 w vl L) (hp : SlI .u64 w vp p) (ht : TrieOk B L) (hl : B.length ≤ 1048576) :
    Calls Try.prog 43 #[.agg #[vb, vl], vp] w fun e w' => ∃ v', e = .returned v' ∧ w'.ownsRow w.heap.size 38 1 v' (keysL B L p).length ((keysL B L p).map (.int .u64)) ∧ Below w.heap.size w w' := by
  match p with
  | [] =>
    obtain ⟨a, c, rfl, -⟩ := path_any hp
    exact refkeys0_any vb vl a c B w hB hl
  | [k] =>
    obtain ⟨b, o, c, rfl, hc⟩ := path_one hp
    exact refkeys1_any vb vl b o c B L k w hB hL ht hl hc
  | k :: l :: r =>
    obtain ⟨a, c, rfl, hn⟩ := path_any hp
    refine (refkeysN_any vb vl a _ c B w hB (by simp) hn).mono ?_
    rintro e w' ⟨rfl, hb⟩
    exact ⟨_, rfl, World.ownsRow_nil _ _ _ _, hb⟩

theorem refhasAll_any (vb vl vp : Value) (B : List Br) (L : List Int) (p : List Int) (w : World) (hB : SlB w vb B) (hL : SlI .u64 w vl L) (hp : SlI .u64 w vp p) (ht : TrieOk B L) :
    Calls Try.prog 45 #[.agg #[vb, vl], vp] w fun e w' => e = .returned (.bool (hasL B L p)) ∧ Below w.heap.size w w' := by
  match p with
  | [] =>
    obtain ⟨a, c, rfl, -⟩ := path_any hp
    have := refhas0_any vb vl a c B L w hB hL ht
    rw [any0 ht] at this
    exact this
  | [k] =>
    obtain ⟨b, o, c, rfl, hc⟩ := path_one hp
    have := refhas1_any vb vl b o c B L k w hB hL ht hc
    rw [any1 ht] at this
    exact this
  | [k, l] =>
    obtain ⟨b, o, c, rfl, hc, hd⟩ := path_two hp
    have := refhas2_any vb vl b o c B L k l w hB hL ht hc hd
    rw [any2 ht] at this
    exact this
  | k :: l :: m :: r =>
    obtain ⟨a, c, rfl, hn⟩ := path_any hp
    exact refhasN_any vb vl a _ c B L w hB hL (by simp) hn
end Go.Proofs.Ytdfnfdgkhflonaa
