/-
  What stands while a law of plan goes on. No walk.
-/
import Derived.Test.YtdmfhlfhlflakaaDoorPlOwn
namespace Go.Proofs.YtdmfhlfhlflakaaDoor
open Go.RowKit
set_option linter.unusedVariables false

/-- What stands while a law goes on: a cover cut, a shape of the call's own. -/
structure LstW (w : World) (m : Int) (ev sv wv' : Value) (S : Shp) (c : Cov) (Y : Nat) (W : World) : Prop where
  bel : Below w.heap.size w W
  bc : CB W (w.heap.size + 1) wv' c.of
  b5 : SB W Y m ev sv
  own : ShR W ev sv S
  ws : SlI .i64 W wv' c.ws
  low : w.heap.size + 1 < Y
theorem LstW.later {w W W' : World} {m : Int} {ev sv wv' : Value} {S : Shp} {c : Cov} {Y : Nat} (h : LstW w m ev sv wv' S c Y W) (hb : Below W.heap.size W W') : LstW w m ev sv wv' S c Y W' :=
  ⟨later_trans h.bel hb, kept hb h.bc, kept hb h.b5, h.own.later hb, SlI.later h.ws hb, h.low⟩
theorem LstW.of {w W : World} {m o : Int} {ev sv wv' : Value} {S : Shp} {ws : List Int} {Y base : Nat} {a0 : Value} (bel : Below w.heap.size w W) (bc : CB W (w.heap.size + 1) a0 o) (b5 : SB W Y m ev sv) (own : OwnSh base W ev sv S) (hws : W.ownsRow base 3 1 wv' ws.length (ws.map (.int .i64))) (hwf : ∀ x ∈ ws, (Lit.int .i64 x).wf = true) (low : w.heap.size + 1 < Y) (hbase : w.heap.size + 1 < base) :
    LstW w m ev sv wv' S ⟨ws, o⟩ Y (W.setCell ⟨w.heap.size + 1, 0, none⟩ wv') := by
  refine ⟨below_set bel (by omega), ?_, box_other b5 (by omega) _, (own.setB hbase _).shR, SlI.of_owns (owns_setB hws hbase _) hwf, low⟩
  have := box_set (i := 0) bc wv'
  simpa [CB] using this
theorem WB.two {W : World} {x a : Nat} {h l : Nat} (hW : WB W x a) (e : wv a = .agg #[.int .u64 (h : Int), .int .u64 (l : Int)]) : W.heap[x]? = some (.cells #[.int .u64 (h : Int), .int .u64 (l : Int)] 35 (0, 0)) := by
  unfold wv at e
  simp only [Value.agg.injEq, Array.mk.injEq, List.cons.injEq, Value.int.injEq, true_and, and_true] at e
  unfold WB at hW
  rw [← e.1, ← e.2]; exact hW
theorem WB.mk {W : World} {x a : Nat} {h l : Nat} (e : wv a = .agg #[.int .u64 (h : Int), .int .u64 (l : Int)]) (hW : W.heap[x]? = some (.cells #[.int .u64 (h : Int), .int .u64 (l : Int)] 35 (0, 0))) : WB W x a := by
  unfold wv at e
  simp only [Value.agg.injEq, Array.mk.injEq, List.cons.injEq, Value.int.injEq, true_and, and_true] at e
  unfold WB
  rw [e.1, e.2]; exact hW
end Go.Proofs.YtdmfhlfhlflakaaDoor
