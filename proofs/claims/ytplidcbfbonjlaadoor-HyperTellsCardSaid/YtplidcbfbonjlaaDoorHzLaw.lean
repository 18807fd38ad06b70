/-
  What the laws of hyper hold: the hypergraph of their own in its box; acyclic, said as a Bool.
-/
import Derived.Test.YtplidcbfbonjlaaDoorHzWakes
namespace Go.Proofs.YtplidcbfbonjlaaDoor
open Go.RowKit Go.Shelf Go.Lib
set_option linter.unusedVariables false
set_option linter.unusedSimpArgs false

structure HyI (w : World) (Y : Nat) (m : Int) (hv : Value) (E : List (List Int)) (W : World) : Prop where
  bel : Below w.heap.size w W
  box : HB W Y m hv
  row : SlRK .i64 W hv E
  at' : w.heap.size ≤ Y
  tab : TabW W
theorem HyI.later {w W W' : World} {Y : Nat} {m : Int} {hv : Value} {E : List (List Int)} (h : HyI w Y m hv E W) (hb : Below W.heap.size W W') : HyI w Y m hv E W' :=
  ⟨later_trans h.bel hb, kept hb h.box, h.row.later hb, h.at', h.tab.later hb⟩
/-- Acyclic. -/
noncomputable def acB (m : Int) (ls : List (List Int)) : Bool := @decide (hypB m ls = true ∧ LeftOf (ls.map setL) []) (Classical.propDecidable _)
theorem acB_iff {m : Int} {ls : List (List Int)} : acB m ls = true ↔ (hypB m ls = true ∧ LeftOf (ls.map setL) []) := by
  unfold acB
  exact @decide_eq_true_iff _ (Classical.propDecidable _)
theorem LeftP.nil_iff {m : Int} {ls out : List (List Int)} (h : LeftP m ls out) (hy : hypB m ls = true) : out = [] ↔ acB m ls = true := by
  obtain ⟨c, hc, -, hm⟩ := h.yes hy
  rw [acB_iff]
  constructor
  · intro e
    refine ⟨hy, ?_⟩
    have : c = [] := List.eq_nil_iff_forall_not_mem.2 fun s hs => by
      have := (hm (eachL s)).2 ⟨s, hs, rfl⟩
      rw [e] at this
      cases this
    rwa [this] at hc
  · intro e
    refine List.eq_nil_iff_forall_not_mem.2 fun x hx => ?_
    obtain ⟨s, hs, -⟩ := (hm x).1 hx
    exact absurd (hc.sub e.2 s hs) List.not_mem_nil
theorem AcyclicB_any (m : Int) (ev : Value) (ls : List (List Int)) (w : World) (h : SlRK .i64 w ev ls) (hT : TabW w) :
    Calls Tryd.prog 13 #[hypV m ev] w fun e w' => e = .returned (.bool (acB m ls)) ∧ Below w.heap.size w w' := by
  refine (Acyclic_any m ev ls w h hT).mono ?_
  rintro e w' ⟨b, out, rfl, hL, hb, hbel⟩
  refine ⟨?_, hbel⟩
  have : b = acB m ls := by
    rw [Bool.eq_iff_iff, hb]
    constructor
    · rintro ⟨h1, h2⟩; exact (hL.nil_iff h1).1 h2
    · intro h1
      have h2 := (acB_iff.1 h1).1
      exact ⟨h2, (hL.nil_iff h2).2 h1⟩
  rw [this]
/-- What is left, with how many there are. -/
theorem LeftB_any (m : Int) (ev : Value) (ls : List (List Int)) (w : World) (h : SlRK .i64 w ev ls) (hT : TabW w) (hy : hypB m ls = true) :
    Calls Tryd.prog 14 #[hypV m ev] w fun e w' => ∃ a n c, e = .returned (.slice a n c) ∧ ((n : Int) == 0) = acB m ls ∧ Below w.heap.size w w' := by
  refine (Left_any m ev ls w h hT).mono ?_
  rintro e w' ⟨v', out, rfl, hv, hL, hbel⟩
  obtain ⟨a, c, rfl, -⟩ := hv.open
  refine ⟨a, out.length, c, rfl, ?_, hbel⟩
  rw [Bool.eq_iff_iff, beq_iff_eq, ← hL.nil_iff hy]
  constructor
  · intro e; exact List.eq_nil_of_length_eq_zero (by omega)
  · intro e; rw [e]; rfl
theorem TreeP.ok {m : Int} {ls : List (List Int)} {P : List Int} {no : Int} (h : TreeP m ls P no) (hy : hypB m ls = true) : (no = 0 ∧ acB m ls = true ∧ JoinP (ls.map setL) P) ∨ (no = 301 ∧ acB m ls = false ∧ P = []) := by
  rcases h.yes hy with ⟨h1, L, h2, h3, h4⟩ | ⟨h1, h2, c, hc, hl⟩
  · exact .inl ⟨h1, acB_iff.2 ⟨hy, h4⟩, h3.join h2⟩
  · refine .inr ⟨h1, ?_, h2⟩
    cases e : acB m ls with
    | false => rfl
    | true =>
      obtain ⟨s, hs⟩ := List.exists_mem_of_ne_nil c hc
      exact absurd (hl.sub (acB_iff.1 e).2 s hs) List.not_mem_nil
theorem has_row {ls : List (List Int)} (hv : VertsOk ls) {i v : Nat} (hi : i < ls.length) : Has' (ls.map setL) i v ↔ (v : Int) ∈ rowN ls i := by
  unfold Has'
  rw [setL_getD, setL_bit (fun x hx => (hv _ (rowN_mem hi) x hx).1), decide_eq_true_iff]
theorem SlI.of_tree {W : World} {base : Nat} {v : Value} {P : List Int} {E : List Nat} (h : W.ownsRow base 3 1 v P.length (P.map (.int .i64))) (hJ : P = [] ∨ JoinP E P) (hl : P.length ≤ 1048576) : SlI .i64 W v P := SlI.of_owns h (fun x hx => by
    rcases hJ with e | hJ
    · rw [e] at hx; cases hx
    · obtain ⟨i, hi, rfl⟩ := List.mem_iff_getElem.1 hx
      have q := hJ.root.at hi
      rw [getD_at hi] at q
      rcases q with q | q
      · rw [q]; decide
      · exact WalkArith.wf_i64 (by omega))
/-- Gone up so far. -/
structure ClimbI (E : List Nat) (P : List Int) (v j n a : Nat) : Prop where
  has : Has' E a v
  lt : a < n
  way : Top E P a v ∨ ∃ m, UpTo P m (a : Int) ∧ m + j ≤ n
theorem ClimbI.start {E : List Nat} {P : List Int} {v n i : Nat} (hJ : JoinP E P) (hn : E.length = n) (hi : i < n) (h : Has' E i v) : ClimbI E P v 0 n i := by
  obtain ⟨m, hm⟩ := hJ.root i (by rw [hJ.len]; omega)
  have := hm.bound
  have := hJ.len
  exact ⟨h, hi, .inr ⟨m, hm, by omega⟩⟩
theorem ClimbI.up {E : List Nat} {P : List Int} {v j n a p : Nat} (h : ClimbI E P v j n a) (hn : E.length = n) (hp : P.getD a 0 = (p : Int)) (hpn : p < n) (hv : Has' E p v) : ClimbI E P v (j + 1) n p := by
  refine ⟨hv, hpn, ?_⟩
  rcases h.way with ⟨-, h2⟩ | ⟨m, h1, h2⟩
  · exact absurd ⟨p, hp, by omega, hv⟩ h2
  · cases m with
    | zero => have h1' : (a : Int) = -1 := h1; omega
    | succ m =>
      have h3 := h1.2.2
      rw [Int.toNat_natCast, hp] at h3
      exact .inr ⟨m, h3, by omega⟩
theorem ClimbI.stay {E : List Nat} {P : List Int} {v j n a : Nat} (h : ClimbI E P v j n a) (hp : ∀ p : Nat, P.getD a 0 = (p : Int) → ¬ Has' E p v) : ClimbI E P v (j + 1) n a :=
  ⟨h.has, h.lt, .inl ⟨h.has, fun ⟨k, e, _, hk⟩ => hp k e hk⟩⟩
theorem ClimbI.done {E : List Nat} {P : List Int} {v n a : Nat} (h : ClimbI E P v n n a) : Top E P a v := by
  rcases h.way with h1 | ⟨m, h1, h2⟩
  · exact h1
  · obtain rfl : m = 0 := by omega
    have h1' : (a : Int) = -1 := h1
    omega
/-- The top so far. -/
def TopI (E : List Nat) (P : List Int) (v n : Nat) (t : Int) : Prop := t = -1 ∨ ∃ a : Nat, t = a ∧ a < n ∧ Top E P a v
theorem Top.only {E : List Nat} {P : List Int} {v a b : Nat} (hJ : JoinP E P) (ha : a < E.length) (hb : b < E.length) (h1 : Top E P a v) (h2 : Top E P b v) : a = b := by
  obtain ⟨i, hi, -, hu⟩ := hJ.top v ⟨a, ha, h1.1⟩
  rw [hu a ha h1, hu b hb h2]
end Go.Proofs.YtplidcbfbonjlaaDoor
