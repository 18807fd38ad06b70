/-
  The leaves under a key, walked: trie's under.
-/
import Derived.Test.YtdfnfdgkhflonaaRows
import Derived.WalkKit
import Derived.WalkSpells
import Derived.WalkLawsBesides
import Derived.Deep.QuietTactic
import Derived.BigQuiet
import Derived.Outline
import Derived.WalkMore
import Derived.Deep.RegionHeld3
import Derived.Test.YtdfnfdgkhflonaaBase
import Derived.Test.YtdfnfdgkhflonaaBase2
import Derived.Test.YtdfnfdgkhflonaaLib
import Derived.Test.YtdfnfdgkhflonaaTPlain
import Derived.Test.YtdfnfdgkhflonaaTOwn2
import Derived.Test.YtdfnfdgkhflonaaTOfP
import Derived.Test.YtdfnfdgkhflonaaTRunC
import Derived.Test.YtdfnfdgkhflonaaTPairs
import Derived.Test.YtdfnfdgkhflonaaTFind
namespace Go.Proofs.Ytdfnfdgkhflonaa
open Go.RowKit
set_option linter.unusedVariables false

set_option maxRecDepth 100000 in
theorem leaves_zero (vb pv : Value) (a : Option Addr) (n c : Nat) (key : Int) (w : World) :
    Calls Try.prog 110 #[.agg #[vb, .slice a n c, pv], .agg #[.int .u64 key, .int .i64 0, .int .i64 0]] w fun e w' => e = .returned (.slice a 0 0) ∧ Below w.heap.size w w' := by
  cases a with
  | none =>
    go_enter Try.func110, Try.ntmps110
    go_wp2
    go_ret
    exact ⟨rfl, later_trans (later_alloc w _) (later_alloc _ _)⟩
  | some ad =>
    go_enter Try.func110, Try.ntmps110
    go_wp2
    go_ret
    exact ⟨rfl, later_trans (later_alloc w _) (later_alloc _ _)⟩

/-- The leaves of a key's branch. -/
def underL (B : List Br) (L : List Int) (key : Int) : List Int :=
  match B.find? (fun b => b.k == key) with
  | some b => (L.drop b.f.toNat).take (b.t.toNat - b.f.toNat)
  | none => []
theorem keys_rise {B : List Br} {L : List Int} (h : TrieOk B L) : ∀ i j, (hij : i < j) → (hj : j < B.length) → B[i].k < B[j].k := by
  intro i j
  induction j with
  | zero => intro h1; omega
  | succ j ih =>
    intro h1 h2
    have h3 := (h.2.1 (j + 1) h2).1.2.2.2
    have g1 : B.getD (j + 1) Br.no = B[j + 1] := by simp [List.getD, List.getElem?_eq_getElem h2]
    have g2 : B.getD j Br.no = B[j] := by simp [List.getD, List.getElem?_eq_getElem (show j < B.length by omega)]
    rw [Nat.add_sub_cancel, g1, g2] at h3
    have h3' : B[j].k < B[j + 1].k := by omega
    by_cases e : i = j
    · subst e; exact h3'
    · exact Int.lt_trans (ih (by omega) (by omega)) h3'
theorem find_yes {B : List Br} {L : List Int} (h : TrieOk B L) {i : Nat} (hi : i < B.length) : B.find? (fun b => b.k == B[i].k) = some B[i] := by
  rw [List.find?_eq_some_iff_getElem]
  refine ⟨by simp, i, hi, rfl, fun j hj => ?_⟩
  have := keys_rise h j i hj hi
  simp; omega
theorem find_none {B : List Br} {key : Int} (h : ∀ i, (h : i < B.length) → B[i].k ≠ key) : B.find? (fun b => b.k == key) = none := by
  rw [List.find?_eq_none]
  intro b hb
  obtain ⟨i, hi, rfl⟩ := List.getElem_of_mem hb
  simpa using h i hi
theorem br_at {B : List Br} {L : List Int} (h : TrieOk B L) {i : Nat} (hi : i < B.length) : 0 ≤ B[i].f ∧ B[i].f < B[i].t ∧ B[i].t ≤ L.length := by
  have h1 := (h.2.1 i hi).1
  have h2 := endAt_nonneg (n := i) (fun j hj => (h.2.1 j (by omega)).1)
  have g1 : B.getD i Br.no = B[i] := by simp [List.getD, List.getElem?_eq_getElem hi]
  unfold BrOk at h1
  rw [g1] at h1
  omega
theorem sub_slice {k : IntKind} {w : World} {b o n c f t : Nat} {xs : List Int} (h : SlI k w (.slice (some ⟨b, o, none⟩) n c) xs) (hf : f < t) (ht : t ≤ xs.length) : SlI k w (.slice (some ⟨b, o + f, none⟩) (t - f) (t - f)) ((xs.drop f).take (t - f)) := by
  obtain ⟨⟨a', c', e, h1, h2, h3, h4⟩, hw⟩ := h
  cases e
  simp only [List.length_map] at h1
  refine ⟨⟨_, t - f, by simp; omega, by simp; omega, by omega, fun h => (by cases h), fun hne => ⟨b, o + f, rfl, ?_, fun i u hi => ?_⟩⟩, fun x hx => hw x (List.mem_of_mem_drop (List.mem_of_mem_take hx))⟩
  · obtain ⟨b', o', e', hlt, _⟩ := h4 (by intro e; have hx : xs.length = 0 := (by simpa using congrArg List.length e); omega)
    cases e'; exact hlt
  · obtain ⟨b', o', e', hlt, hc⟩ := h4 (by intro e; have hx : xs.length = 0 := (by simpa using congrArg List.length e); omega)
    cases e'
    rw [Nat.add_assoc]
    refine hc (f + i) u ?_
    rw [List.map_take, List.map_drop] at hi
    rw [List.getElem?_take] at hi
    split at hi
    · rw [List.getElem?_drop] at hi; exact hi
    · cases hi
theorem sli_none (k : IntKind) (w : World) (a : Option Addr) : SlI k w (.slice a 0 0) [] := ⟨⟨a, 0, rfl, by simp, by simp [maxLen], fun _ => rfl, fun h => absurd rfl h⟩, fun x hx => by cases hx⟩

set_option maxRecDepth 100000 in
set_option maxHeartbeats 2000000 in
theorem under_any (vb vl : Value) (pb po pn pc : Nat) (B : List Br) (L : List Int) (key : Int) (w : World) (hB : SlB w vb B) (hL : SlI .u64 w vl L) (hok : TrieOk B L) (hl : B.length ≤ 1099511627776) (hpn : 0 < pn) (hp : w.cell? ⟨pb, po, none⟩ = some (.int .u64 key)) :
    Calls Try.prog 87 #[.agg #[vb, vl, .slice (some ⟨pb, po, none⟩) pn pc]] w fun e w' => ∃ v', e = .returned v' ∧ w'.ownsRow w.heap.size 38 1 v' (underL B L key).length ((underL B L key).map (.int .u64)) ∧ Below w.heap.size w w' := by
  obtain ⟨a, c, rfl, -⟩ := hB.open
  obtain ⟨a', c', rfl, hlc, hcm, -⟩ := hL.open
  obtain ⟨W, hW⟩ : ∃ W, w.alloc (.cells #[.slice a B.length c, .slice a' L.length c', .slice (some ⟨pb, po, none⟩) pn pc] 120) = W := ⟨_, rfl⟩
  obtain ⟨K, hKe⟩ : ∃ K, w.heap.size = K := ⟨_, rfl⟩
  have hbW : Below w.heap.size w W := by rw [← hW]; exact later_alloc w _
  have hKb : W.heap[K]? = some (.cells #[.slice a B.length c, .slice a' L.length c', .slice (some ⟨pb, po, none⟩) pn pc] 120 (0, 0)) := by rw [← hW, ← hKe]; exact box_new w _ _
  have k0 := box_cell (i := 0) hKb
  have k1 := box_cell (i := 1) hKb
  have k2 := box_cell (i := 2) hKb
  simp at k0 k1 k2
  have hpW := cell_next hbW hp
  have hpz : (0 : Int) < (pn : Int) := by omega
  have HF := Lib.hid (fun V (hV : Below w.heap.size w V) => find_any (.slice a B.length c) (.slice a' L.length c') (.slice (some ⟨pb, po, none⟩) pn pc) B key V (hB.later hV) (keys_rise hok) hl)
  have hKlt : K < W.heap.size := lt_of_block hKb
  have HB := Lib.hid hB
  have HL := Lib.hid hL
  have HOK := Lib.hid hok
  clear hB hL hp hok
  have HT : ∀ (b : Br) (ok : Bool), FindOk B key b ok →
      ∃ (v2 : Value) (xs : List Int), underL B L key = xs ∧ xs.length ≤ 1099511627776 ∧ (∃ a2 n2 c2, v2 = .slice a2 n2 c2) ∧ SlI .u64 w v2 xs ∧ ∀ V2, Calls Try.prog 110 #[.agg #[.slice a B.length c, .slice a' L.length c', .slice (some ⟨pb, po, none⟩) pn pc], .agg #[.int .u64 b.k, .int .i64 b.f, .int .i64 b.t]] V2 fun e w' => e = .returned v2 ∧ Below V2.heap.size V2 w' := by
    intro b ok hfo
    cases ok with
    | true =>
      obtain ⟨i, hi, rfl, hk⟩ := hfo.1 rfl
      obtain ⟨h1, h2, h3⟩ := br_at HOK.out hi
      obtain ⟨nf, hnf⟩ : ∃ n : Nat, B[i].f = n := ⟨B[i].f.toNat, by omega⟩
      obtain ⟨nt, hnt⟩ : ∃ n : Nat, B[i].t = n := ⟨B[i].t.toNat, by omega⟩
      have hL := HL.out
      obtain ⟨a2, c2, e2, g1, g2, g3, g4⟩ := hL.open
      cases e2
      obtain ⟨bl, ol, rfl, -, -⟩ := g4 (by omega)
      have hml := HOK.out.1
      refine ⟨_, (L.drop nf).take (nt - nf), ?_, by simp; omega, ⟨_, _, _, rfl⟩, sub_slice hL (f := nf) (t := nt) (by omega) (by omega), fun V2 => ?_⟩
      · unfold underL
        rw [← hk, find_yes HOK.out hi]
        simp [hnf, hnt]
      · rw [hnf, hnt]
        exact leaves_any _ _ _ _ _ _ _ _ _ _ (by omega) (by omega) hcm
    | false =>
      obtain ⟨rfl, hno⟩ := hfo.2 rfl
      refine ⟨_, [], ?_, by simp, ⟨_, _, _, rfl⟩, sli_none .u64 w a', fun V2 => leaves_zero _ _ _ _ _ _ _⟩
      unfold underL
      rw [find_none hno]
  go_enter Try.func87, Try.ntmps87
  go_wp2
  go_region_held3 (fun W' => W'.cell? ⟨K, 0, none⟩ = some (.slice a B.length c) ∧ W'.cell? ⟨K, 1, none⟩ = some (.slice a' L.length c') ∧ W'.cell? ⟨K, 2, none⟩ = some (.slice (some ⟨pb, po, none⟩) pn pc) ∧ W'.cell? ⟨pb, po, none⟩ = some (.int .u64 key))
    (first | exact ⟨k0, k1, k2, hpW⟩ | (refine cells4_next (W := W) ?_ ⟨k0, k1, k2, hpW⟩; first | exact hbWF | exact Below.alloc hbWF hbWF.size _ | exact ((Below.refl _ W).alloc (Nat.le_refl _) _).drew | exact (Below.refl _ W).alloc (Nat.le_refl _) _ | exact ((hbWF.setCell (Nat.le_refl _) _).setCell (Nat.le_refl _) _).setCell (Nat.le_refl _) _) | assumption)
    (first
      | (go_at_call 85; refine (HF.out _ (later_trans hbW (later_drew _))).mono ?_; rintro e wF ⟨b, ok, rfl, hfo, hbF⟩; have hbWF : Below W.heap.size W wF := later_trans (later_drew W) hbF)
      | (go_at_call 85; refine (HF.out _ (later_trans hbW (later_trans (later_alloc W _) (later_drew _)))).mono ?_; rintro e wF ⟨b, ok, rfl, hfo, hbF⟩; have hbWF : Below W.heap.size W wF := later_trans (later_trans (later_alloc W _) (later_drew _)) hbF; have hbn := (hbF.block _ (lt_of_block (box_new W #[.int .u64 0, .int .i64 0, .int .i64 0] 40))).trans (box_new W #[.int .u64 0, .int .i64 0, .int .i64 0] 40); have n0 := box_cell (i := 0) hbn; have n1 := box_cell (i := 1) hbn; have n2 := box_cell (i := 2) hbn; simp at n0 n1 n2; have m0 := box_frozen (i := 0) hbn; have m1 := box_frozen (i := 1) hbn; have m2 := box_frozen (i := 2) hbn))
  all_goals obtain ⟨v2, xs, hxs, hxl, ⟨a2, n2, c2, rfl⟩, hsl, hlv⟩ := HT b ok hfo
  · have HLV := Lib.hid hlv
    have HSL := Lib.hid hsl
    have HXS := Lib.hid hxs
    clear hlv hsl hxs HT
    have hKV := ((Below.alloc hbWF hbWF.size (.cells #[.int .u64 b.k, .int .i64 b.f, .int .i64 b.t] 40)).block _ hKlt).trans hKb
    have hXV := box_new wF #[.int .u64 b.k, .int .i64 b.f, .int .i64 b.t] 40
    have hbV := Below.alloc hbWF hbWF.size (.cells #[.int .u64 b.k, .int .i64 b.f, .int .i64 b.t] 40)
    obtain ⟨V, hV⟩ : ∃ V, wF.alloc (.cells #[.int .u64 b.k, .int .i64 b.f, .int .i64 b.t] 40) = V := ⟨_, rfl⟩
    rw [hV] at hKV hXV hbV ⊢
    clear hV
    have z0 := box_cell (i := 0) hKV
    have z1 := box_cell (i := 1) hKV
    have z2 := box_cell (i := 2) hKV
    have y0 := box_cell (i := 0) hXV
    have y1 := box_cell (i := 1) hXV
    have y2 := box_cell (i := 2) hXV
    simp at z0 z1 z2 y0 y1 y2
    have hbwV := later_trans hbW hbV
    go_wp2_with (first
      | (go_at_call 110; refine (HLV.out _).mono ?_; rintro e w4 ⟨rfl, hb4⟩)
      | (go_at_call 59; refine (clone_any _ _ _ (HSL.out.later (later_trans hbwV hb4)) hxl).mono ?_; rintro e w5 ⟨v5, rfl, hown5, hb5⟩))
    go_ret
    rw [HXS.out]
    exact ⟨_, rfl, owns_down hown5 (later_trans hbwV hb4).size, later_trans (later_trans hbwV hb4) hb5⟩
  · have HLV := Lib.hid hlv
    have HSL := Lib.hid hsl
    have HXS := Lib.hid hxs
    clear hlv hsl hxs HT
    have hbV := ((hbWF.setCell (p := ⟨W.heap.size, 0, none⟩) (Nat.le_refl _) (.int .u64 b.k)).setCell (p := ⟨W.heap.size, 1, none⟩) (Nat.le_refl _) (.int .i64 b.f)).setCell (p := ⟨W.heap.size, 2, none⟩) (Nat.le_refl _) (.int .i64 b.t)
    have hKV := (hbV.block _ hKlt).trans hKb
    have hXV := box_set (i := 2) (box_set (i := 1) (box_set (i := 0) hbn (.int .u64 b.k)) (.int .i64 b.f)) (.int .i64 b.t)
    simp at hXV
    obtain ⟨V, hV⟩ : ∃ V, ((wF.setCell ⟨W.heap.size, 0, none⟩ (.int .u64 b.k)).setCell ⟨W.heap.size, 1, none⟩ (.int .i64 b.f)).setCell ⟨W.heap.size, 2, none⟩ (.int .i64 b.t) = V := ⟨_, rfl⟩
    rw [hV] at hKV hXV hbV ⊢
    clear hV
    have z0 := box_cell (i := 0) hKV
    have z1 := box_cell (i := 1) hKV
    have z2 := box_cell (i := 2) hKV
    have y0 := box_cell (i := 0) hXV
    have y1 := box_cell (i := 1) hXV
    have y2 := box_cell (i := 2) hXV
    simp at z0 z1 z2 y0 y1 y2
    have hbwV := later_trans hbW hbV
    go_wp2_with (first
      | (go_at_call 110; refine (HLV.out _).mono ?_; rintro e w4 ⟨rfl, hb4⟩)
      | (go_at_call 59; refine (clone_any _ _ _ (HSL.out.later (later_trans hbwV hb4)) hxl).mono ?_; rintro e w5 ⟨v5, rfl, hown5, hb5⟩))
    go_ret
    rw [HXS.out]
    exact ⟨_, rfl, owns_down hown5 (later_trans hbwV hb4).size, later_trans (later_trans hbwV hb4) hb5⟩
end Go.Proofs.Ytdfnfdgkhflonaa
