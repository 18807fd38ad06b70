/-
  No cell of these rows narrows 'for every input' (looked for: loops, veiled, ifaces, maps, wideKeys, modest, calm, conditions, laid).
  DERIVED. THE GIVEN ROWS OF THIS SEAT. 7 by the template 'for every input the law returns true; each argument reads behind the call as it read before'; 0 by the template 'total and deterministic' (their statements: YtlndgjibefbddaaTotals.lean).
  GIVEN WITH THE SEED: the statements are not yours to turn. If you find one false, say at which input.
  Laid BY PROGRAM, IN A SANDBOX (cutbox-rows.mjs): the forced cells as the released guide's own fill.sh prints them over the translation 38b1745e4bc202f9… (all of the seat's roots in one cut). By AI agents, Wed Nov 11 2026. No macro, syntax, notation, axiom, sorry.
-/
import Derived.Test.YtlndgjibefbddaaChecked
import GoSem.Claim
import GoSem.ClaimJoined
import GoSem.ClaimMapViews
import Derived.JoinedTies
import Derived.KernelRfl
namespace Go.Proofs.Ytlndgjibefbddaa
/- THE CELL 'sum', in the pinned program and in every row, IS THE sha256 OF THE DUMP (.gsa) THAT YtlndgjibefbddaaProg.lean LOADS. Nothing in Lean hashes anything: it is a label: what it is worth is what the hold of that sum in a sandbox is worth. -/
noncomputable def Try.pinned : Pinned := { name := "ytlndgjibefbddaa", sum := "38b1745e4bc202f92aef75a345390ca951c0f2836d490abacbfabcfe34f6ff35", checked := Try.checked }
namespace Rows
def none {H : Type} : Left H := { results := [], args := [] }

/-- 'colanderlaw04.GallopLogs': WHATEVER THE INPUT: true; the input reads as it did. -/
def gallopLogsSpec : ChangeSpec := { name := "gallopLogs", fn := fun _ => fun
  | [d] => { results := [.lit (.bool true)], args := [d] }
  | _ => none }
def gallopLogsRow : OpenClaim := { program := "ytlndgjibefbddaa", sum := "38b1745e4bc202f92aef75a345390ca951c0f2836d490abacbfabcfe34f6ff35", func := "colander/colanderlaw04.GallopLogs", spec := "gallopLogs", unfollowed := true, recurses := true, apart := false }
def GallopLogsSaid : Prop := gallopLogsRow.holds Try.pinned (OpenSpec.ofChange gallopLogsSpec)

/-- ITS FALSE NEIGHBOUR: 'it returns false'. Refute it at one input. -/
def gallopLogsWrong : ChangeSpec := { name := "gallopLogs", fn := fun _ => fun
  | [d] => { results := [.lit (.bool false)], args := [d] }
  | _ => none }
def GallopLogsWrongFalsely : Prop := gallopLogsRow.holds Try.pinned (OpenSpec.ofChange gallopLogsWrong)

/-- 'colanderlaw04.GallopHalves': WHATEVER THE INPUT: true; the input reads as it did. -/
def gallopHalvesSpec : ChangeSpec := { name := "gallopHalves", fn := fun _ => fun
  | [d] => { results := [.lit (.bool true)], args := [d] }
  | _ => none }
def gallopHalvesRow : OpenClaim := { program := "ytlndgjibefbddaa", sum := "38b1745e4bc202f92aef75a345390ca951c0f2836d490abacbfabcfe34f6ff35", func := "colander/colanderlaw04.GallopHalves", spec := "gallopHalves", unfollowed := true, recurses := true, apart := false }
def GallopHalvesSaid : Prop := gallopHalvesRow.holds Try.pinned (OpenSpec.ofChange gallopHalvesSpec)

/-- ITS FALSE NEIGHBOUR: 'it returns false'. Refute it at one input. -/
def gallopHalvesWrong : ChangeSpec := { name := "gallopHalves", fn := fun _ => fun
  | [d] => { results := [.lit (.bool false)], args := [d] }
  | _ => none }
def GallopHalvesWrongFalsely : Prop := gallopHalvesRow.holds Try.pinned (OpenSpec.ofChange gallopHalvesWrong)

/-- 'colanderlaw04.GallopMeets': WHATEVER THE INPUT: true; the input reads as it did. -/
def gallopMeetsSpec : ChangeSpec := { name := "gallopMeets", fn := fun _ => fun
  | [d1, d2, d3] => { results := [.lit (.bool true)], args := [d1, d2, d3] }
  | _ => none }
def gallopMeetsRow : OpenClaim := { program := "ytlndgjibefbddaa", sum := "38b1745e4bc202f92aef75a345390ca951c0f2836d490abacbfabcfe34f6ff35", func := "colander/colanderlaw04.GallopMeets", spec := "gallopMeets", unfollowed := true, recurses := true, apart := false }
def GallopMeetsSaid : Prop := gallopMeetsRow.holds Try.pinned (OpenSpec.ofChange gallopMeetsSpec)

/-- ITS FALSE NEIGHBOUR: 'it returns false'. Refute it at one input. -/
def gallopMeetsWrong : ChangeSpec := { name := "gallopMeets", fn := fun _ => fun
  | [d1, d2, d3] => { results := [.lit (.bool false)], args := [d1, d2, d3] }
  | _ => none }
def GallopMeetsWrongFalsely : Prop := gallopMeetsRow.holds Try.pinned (OpenSpec.ofChange gallopMeetsWrong)

/-- 'colanderlaw04.GallopSeeks': WHATEVER THE INPUT: true; the input reads as it did. -/
def gallopSeeksSpec : ChangeSpec := { name := "gallopSeeks", fn := fun _ => fun
  | [d1, d2, d3] => { results := [.lit (.bool true)], args := [d1, d2, d3] }
  | _ => none }
def gallopSeeksRow : OpenClaim := { program := "ytlndgjibefbddaa", sum := "38b1745e4bc202f92aef75a345390ca951c0f2836d490abacbfabcfe34f6ff35", func := "colander/colanderlaw04.GallopSeeks", spec := "gallopSeeks", unfollowed := true, recurses := true, apart := false }
def GallopSeeksSaid : Prop := gallopSeeksRow.holds Try.pinned (OpenSpec.ofChange gallopSeeksSpec)

/-- ITS FALSE NEIGHBOUR: 'it returns false'. Refute it at one input. -/
def gallopSeeksWrong : ChangeSpec := { name := "gallopSeeks", fn := fun _ => fun
  | [d1, d2, d3] => { results := [.lit (.bool false)], args := [d1, d2, d3] }
  | _ => none }
def GallopSeeksWrongFalsely : Prop := gallopSeeksRow.holds Try.pinned (OpenSpec.ofChange gallopSeeksWrong)

/-- 'colanderlaw04.GallopStands': WHATEVER THE INPUT: true; the input reads as it did. -/
def gallopStandsSpec : ChangeSpec := { name := "gallopStands", fn := fun _ => fun
  | [d1, d2, d3] => { results := [.lit (.bool true)], args := [d1, d2, d3] }
  | _ => none }
def gallopStandsRow : OpenClaim := { program := "ytlndgjibefbddaa", sum := "38b1745e4bc202f92aef75a345390ca951c0f2836d490abacbfabcfe34f6ff35", func := "colander/colanderlaw04.GallopStands", spec := "gallopStands", unfollowed := true, recurses := true, apart := false }
def GallopStandsSaid : Prop := gallopStandsRow.holds Try.pinned (OpenSpec.ofChange gallopStandsSpec)

/-- ITS FALSE NEIGHBOUR: 'it returns false'. Refute it at one input. -/
def gallopStandsWrong : ChangeSpec := { name := "gallopStands", fn := fun _ => fun
  | [d1, d2, d3] => { results := [.lit (.bool false)], args := [d1, d2, d3] }
  | _ => none }
def GallopStandsWrongFalsely : Prop := gallopStandsRow.holds Try.pinned (OpenSpec.ofChange gallopStandsWrong)

/-- 'colanderlaw04.GallopBoth': WHATEVER THE INPUT: true; the input reads as it did. -/
def gallopBothSpec : ChangeSpec := { name := "gallopBoth", fn := fun _ => fun
  | [d1, d2] => { results := [.lit (.bool true)], args := [d1, d2] }
  | _ => none }
def gallopBothRow : OpenClaim := { program := "ytlndgjibefbddaa", sum := "38b1745e4bc202f92aef75a345390ca951c0f2836d490abacbfabcfe34f6ff35", func := "colander/colanderlaw04.GallopBoth", spec := "gallopBoth", unfollowed := true, recurses := true, apart := false }
def GallopBothSaid : Prop := gallopBothRow.holds Try.pinned (OpenSpec.ofChange gallopBothSpec)

/-- ITS FALSE NEIGHBOUR: 'it returns false'. Refute it at one input. -/
def gallopBothWrong : ChangeSpec := { name := "gallopBoth", fn := fun _ => fun
  | [d1, d2] => { results := [.lit (.bool false)], args := [d1, d2] }
  | _ => none }
def GallopBothWrongFalsely : Prop := gallopBothRow.holds Try.pinned (OpenSpec.ofChange gallopBothWrong)

/-- 'colanderlaw04.GallopRises': WHATEVER THE INPUT: true; the input reads as it did. -/
def gallopRisesSpec : ChangeSpec := { name := "gallopRises", fn := fun _ => fun
  | [d1, d2, d3] => { results := [.lit (.bool true)], args := [d1, d2, d3] }
  | _ => none }
def gallopRisesRow : OpenClaim := { program := "ytlndgjibefbddaa", sum := "38b1745e4bc202f92aef75a345390ca951c0f2836d490abacbfabcfe34f6ff35", func := "colander/colanderlaw04.GallopRises", spec := "gallopRises", unfollowed := true, recurses := true, apart := false }
def GallopRisesSaid : Prop := gallopRisesRow.holds Try.pinned (OpenSpec.ofChange gallopRisesSpec)

/-- ITS FALSE NEIGHBOUR: 'it returns false'. Refute it at one input. -/
def gallopRisesWrong : ChangeSpec := { name := "gallopRises", fn := fun _ => fun
  | [d1, d2, d3] => { results := [.lit (.bool false)], args := [d1, d2, d3] }
  | _ => none }
def GallopRisesWrongFalsely : Prop := gallopRisesRow.holds Try.pinned (OpenSpec.ofChange gallopRisesWrong)

/- THE SECOND FORM. 'bulk': how many values and letters a reading holds, each counted each time it is reached (what is shared counts as often as it is met; a slice's spare places count too). A statement '..UptoSaid' is the law's where the arguments, and the package variables that the reading takes, are together of bulk at most 1048576: NARROWER than '..Said'. Prove '..Said' where nothing that the law and all that it calls make is longer than what came in: it says more and counts as full. Else prove '..UptoSaid'. A law counts once. -/
mutual
def uptoBulk {H : Type} : DataW H → Nat
  | .lit (.string bytes) => bytes.length + 1
  | .lit _ => 1
  | .nil => 1
  | .ptr d => uptoBulk d + 1
  | .slice elems spare => uptoBulkAll elems + uptoBulkAll spare + 1
  | .agg parts => uptoBulkAll parts + 1
  | .iface _ d => uptoBulk d + 1
  | .map entries => uptoBulkEntries entries + 1
  | .held _ => 1
def uptoBulkAll {H : Type} : List (DataW H) → Nat
  | [] => 0
  | d :: r => uptoBulk d + uptoBulkAll r
def uptoBulkEntries {H : Type} : List (Lit × DataW H) → Nat
  | [] => 0
  | x :: r => uptoBulkEntry x + uptoBulkEntries r
def uptoBulkEntry {H : Type} : Lit × DataW H → Nat
  | (.string bytes, d) => bytes.length + uptoBulk d + 1
  | (_, d) => uptoBulk d + 1
 end
def uptoSmall : (H : Type) → List (DataW H) → Bool := fun _ ds => decide (uptoBulkAll ds ≤ 1048576)
def OpenSpec.upto (s : _root_.Go.ChangeSpec) : _root_.Go.OpenSpec := { _root_.Go.OpenSpec.ofChange s with cond := some uptoSmall }

/-- 'colanderlaw04.GallopLogs', WHERE WHAT IT READS IS OF BULK AT MOST 1048576: true; the input reads as it did. -/
def gallopLogsUptoRow : OpenClaim := { program := "ytlndgjibefbddaa", sum := "38b1745e4bc202f92aef75a345390ca951c0f2836d490abacbfabcfe34f6ff35", func := "colander/colanderlaw04.GallopLogs", spec := "gallopLogs", unfollowed := true, recurses := true, apart := false, narrowed := true }
def GallopLogsUptoSaid : Prop := gallopLogsUptoRow.holds Try.pinned (OpenSpec.upto gallopLogsSpec)

/-- 'colanderlaw04.GallopHalves', WHERE WHAT IT READS IS OF BULK AT MOST 1048576: true; the input reads as it did. -/
def gallopHalvesUptoRow : OpenClaim := { program := "ytlndgjibefbddaa", sum := "38b1745e4bc202f92aef75a345390ca951c0f2836d490abacbfabcfe34f6ff35", func := "colander/colanderlaw04.GallopHalves", spec := "gallopHalves", unfollowed := true, recurses := true, apart := false, narrowed := true }
def GallopHalvesUptoSaid : Prop := gallopHalvesUptoRow.holds Try.pinned (OpenSpec.upto gallopHalvesSpec)

/-- 'colanderlaw04.GallopMeets', WHERE WHAT IT READS IS OF BULK AT MOST 1048576: true; the input reads as it did. -/
def gallopMeetsUptoRow : OpenClaim := { program := "ytlndgjibefbddaa", sum := "38b1745e4bc202f92aef75a345390ca951c0f2836d490abacbfabcfe34f6ff35", func := "colander/colanderlaw04.GallopMeets", spec := "gallopMeets", unfollowed := true, recurses := true, apart := false, narrowed := true }
def GallopMeetsUptoSaid : Prop := gallopMeetsUptoRow.holds Try.pinned (OpenSpec.upto gallopMeetsSpec)

/-- 'colanderlaw04.GallopSeeks', WHERE WHAT IT READS IS OF BULK AT MOST 1048576: true; the input reads as it did. -/
def gallopSeeksUptoRow : OpenClaim := { program := "ytlndgjibefbddaa", sum := "38b1745e4bc202f92aef75a345390ca951c0f2836d490abacbfabcfe34f6ff35", func := "colander/colanderlaw04.GallopSeeks", spec := "gallopSeeks", unfollowed := true, recurses := true, apart := false, narrowed := true }
def GallopSeeksUptoSaid : Prop := gallopSeeksUptoRow.holds Try.pinned (OpenSpec.upto gallopSeeksSpec)

/-- 'colanderlaw04.GallopStands', WHERE WHAT IT READS IS OF BULK AT MOST 1048576: true; the input reads as it did. -/
def gallopStandsUptoRow : OpenClaim := { program := "ytlndgjibefbddaa", sum := "38b1745e4bc202f92aef75a345390ca951c0f2836d490abacbfabcfe34f6ff35", func := "colander/colanderlaw04.GallopStands", spec := "gallopStands", unfollowed := true, recurses := true, apart := false, narrowed := true }
def GallopStandsUptoSaid : Prop := gallopStandsUptoRow.holds Try.pinned (OpenSpec.upto gallopStandsSpec)

/-- 'colanderlaw04.GallopBoth', WHERE WHAT IT READS IS OF BULK AT MOST 1048576: true; the input reads as it did. -/
def gallopBothUptoRow : OpenClaim := { program := "ytlndgjibefbddaa", sum := "38b1745e4bc202f92aef75a345390ca951c0f2836d490abacbfabcfe34f6ff35", func := "colander/colanderlaw04.GallopBoth", spec := "gallopBoth", unfollowed := true, recurses := true, apart := false, narrowed := true }
def GallopBothUptoSaid : Prop := gallopBothUptoRow.holds Try.pinned (OpenSpec.upto gallopBothSpec)

/-- 'colanderlaw04.GallopRises', WHERE WHAT IT READS IS OF BULK AT MOST 1048576: true; the input reads as it did. -/
def gallopRisesUptoRow : OpenClaim := { program := "ytlndgjibefbddaa", sum := "38b1745e4bc202f92aef75a345390ca951c0f2836d490abacbfabcfe34f6ff35", func := "colander/colanderlaw04.GallopRises", spec := "gallopRises", unfollowed := true, recurses := true, apart := false, narrowed := true }
def GallopRisesUptoSaid : Prop := gallopRisesUptoRow.holds Try.pinned (OpenSpec.upto gallopRisesSpec)

end Rows
end Go.Proofs.Ytlndgjibefbddaa
