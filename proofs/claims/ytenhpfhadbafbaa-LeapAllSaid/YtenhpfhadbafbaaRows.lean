/-
  No cell of these rows narrows 'for every input' (looked for: loops, veiled, ifaces, maps, wideKeys, modest, calm, conditions, laid).
  DERIVED. THE GIVEN ROWS OF THIS SEAT. 4 by the template 'for every input the law returns true; each argument reads behind the call as it read before'; 0 by the template 'total and deterministic' (their statements: YtenhpfhadbafbaaTotals.lean).
  GIVEN WITH THE SEED: the statements are not yours to turn. If you find one false, say at which input.
  Laid BY PROGRAM, IN A SANDBOX (cutbox-rows.mjs): the forced cells as the released guide's own fill.sh prints them over the translation 085014780731ffb8… (all of the seat's roots in one cut). By AI agents, Wed Nov 11 2026. No macro, syntax, notation, axiom, sorry.
-/
import Derived.Test.YtenhpfhadbafbaaChecked
import GoSem.Claim
import GoSem.ClaimJoined
import GoSem.ClaimMapViews
import Derived.JoinedTies
import Derived.KernelRfl
namespace Go.Proofs.Ytenhpfhadbafbaa
/- THE CELL 'sum', in the pinned program and in every row, IS THE sha256 OF THE DUMP (.gsa) THAT YtenhpfhadbafbaaProg.lean LOADS. Nothing in Lean hashes anything: it is a label: what it is worth is what the hold of that sum in a sandbox is worth. -/
noncomputable def Try.pinned : Pinned := { name := "ytenhpfhadbafbaa", sum := "085014780731ffb8487a614e1b29b50dde200bc7412789085b5bd8404e637cf7", checked := Try.checked }
namespace Rows
def none {H : Type} : Left H := { results := [], args := [] }

/-- 'colanderlaw23.LeapLeaps': WHATEVER THE INPUT: true; the input reads as it did. -/
def leapLeapsSpec : ChangeSpec := { name := "leapLeaps", fn := fun _ => fun
  | [d1, d2] => { results := [.lit (.bool true)], args := [d1, d2] }
  | _ => none }
def leapLeapsRow : OpenClaim := { program := "ytenhpfhadbafbaa", sum := "085014780731ffb8487a614e1b29b50dde200bc7412789085b5bd8404e637cf7", func := "colander/colanderlaw23.LeapLeaps", spec := "leapLeaps", unfollowed := true, recurses := true, apart := false }
def LeapLeapsSaid : Prop := leapLeapsRow.holds Try.pinned (OpenSpec.ofChange leapLeapsSpec)

/-- ITS FALSE NEIGHBOUR: 'it returns false'. Refute it at one input. -/
def leapLeapsWrong : ChangeSpec := { name := "leapLeaps", fn := fun _ => fun
  | [d1, d2] => { results := [.lit (.bool false)], args := [d1, d2] }
  | _ => none }
def LeapLeapsWrongFalsely : Prop := leapLeapsRow.holds Try.pinned (OpenSpec.ofChange leapLeapsWrong)

/-- 'colanderlaw23.LeapAll': WHATEVER THE INPUT: true; the input reads as it did. -/
def leapAllSpec : ChangeSpec := { name := "leapAll", fn := fun _ => fun
  | [d] => { results := [.lit (.bool true)], args := [d] }
  | _ => none }
def leapAllRow : OpenClaim := { program := "ytenhpfhadbafbaa", sum := "085014780731ffb8487a614e1b29b50dde200bc7412789085b5bd8404e637cf7", func := "colander/colanderlaw23.LeapAll", spec := "leapAll", unfollowed := true, recurses := true, apart := false }
def LeapAllSaid : Prop := leapAllRow.holds Try.pinned (OpenSpec.ofChange leapAllSpec)

/-- ITS FALSE NEIGHBOUR: 'it returns false'. Refute it at one input. -/
def leapAllWrong : ChangeSpec := { name := "leapAll", fn := fun _ => fun
  | [d] => { results := [.lit (.bool false)], args := [d] }
  | _ => none }
def LeapAllWrongFalsely : Prop := leapAllRow.holds Try.pinned (OpenSpec.ofChange leapAllWrong)

/-- 'colanderlaw23.LeapTurns': WHATEVER THE INPUT: true; the input reads as it did. -/
def leapTurnsSpec : ChangeSpec := { name := "leapTurns", fn := fun _ => fun
  | [d1, d2] => { results := [.lit (.bool true)], args := [d1, d2] }
  | _ => none }
def leapTurnsRow : OpenClaim := { program := "ytenhpfhadbafbaa", sum := "085014780731ffb8487a614e1b29b50dde200bc7412789085b5bd8404e637cf7", func := "colander/colanderlaw23.LeapTurns", spec := "leapTurns", unfollowed := true, recurses := true, apart := false }
def LeapTurnsSaid : Prop := leapTurnsRow.holds Try.pinned (OpenSpec.ofChange leapTurnsSpec)

/-- ITS FALSE NEIGHBOUR: 'it returns false'. Refute it at one input. -/
def leapTurnsWrong : ChangeSpec := { name := "leapTurns", fn := fun _ => fun
  | [d1, d2] => { results := [.lit (.bool false)], args := [d1, d2] }
  | _ => none }
def LeapTurnsWrongFalsely : Prop := leapTurnsRow.holds Try.pinned (OpenSpec.ofChange leapTurnsWrong)

/-- 'colanderlaw23.LeapMeets': WHATEVER THE INPUT: true; the input reads as it did. -/
def leapMeetsSpec : ChangeSpec := { name := "leapMeets", fn := fun _ => fun
  | [d1, d2, d3] => { results := [.lit (.bool true)], args := [d1, d2, d3] }
  | _ => none }
def leapMeetsRow : OpenClaim := { program := "ytenhpfhadbafbaa", sum := "085014780731ffb8487a614e1b29b50dde200bc7412789085b5bd8404e637cf7", func := "colander/colanderlaw23.LeapMeets", spec := "leapMeets", unfollowed := true, recurses := true, apart := false }
def LeapMeetsSaid : Prop := leapMeetsRow.holds Try.pinned (OpenSpec.ofChange leapMeetsSpec)

/-- ITS FALSE NEIGHBOUR: 'it returns false'. Refute it at one input. -/
def leapMeetsWrong : ChangeSpec := { name := "leapMeets", fn := fun _ => fun
  | [d1, d2, d3] => { results := [.lit (.bool false)], args := [d1, d2, d3] }
  | _ => none }
def LeapMeetsWrongFalsely : Prop := leapMeetsRow.holds Try.pinned (OpenSpec.ofChange leapMeetsWrong)

/- THE SECOND FORM. 'bulk': how many values and letters a reading holds, each counted each time it is reached (what is shared counts as often as it is met; a slice's spare places count too). A statement '..UptoSaid' is the law's where the arguments, and the package variables that the reading takes, are together of bulk at most 1048576: NARROWER than '..Said'. Prove '..Said' where nothing that the law and all that it calls make is longer than what came in: it says more and counts as full. Else prove '..UptoSaid'. A law counts once. -/
mutual
def uptoBulk {H : Type} : DataW H → Nat
  | .lit (.string bytes) => bytes.length + 1
  | .lit _ => 1
  | .nil => 1
  | .ptr d => uptoBulk d + 1
  | .slice elems spare => uptoBulkAll elems + uptoBulkAll spare + 1
  | .agg parts => uptoBulkAll parts + 1
  | .iface _ d => uptoBulk d + 1
  | .map entries => uptoBulkEntries entries + 1
  | .held _ => 1
def uptoBulkAll {H : Type} : List (DataW H) → Nat
  | [] => 0
  | d :: r => uptoBulk d + uptoBulkAll r
def uptoBulkEntries {H : Type} : List (Lit × DataW H) → Nat
  | [] => 0
  | x :: r => uptoBulkEntry x + uptoBulkEntries r
def uptoBulkEntry {H : Type} : Lit × DataW H → Nat
  | (.string bytes, d) => bytes.length + uptoBulk d + 1
  | (_, d) => uptoBulk d + 1
 end
def uptoSmall : (H : Type) → List (DataW H) → Bool := fun _ ds => decide (uptoBulkAll ds ≤ 1048576)
def OpenSpec.upto (s : _root_.Go.ChangeSpec) : _root_.Go.OpenSpec := { _root_.Go.OpenSpec.ofChange s with cond := some uptoSmall }

/-- 'colanderlaw23.LeapLeaps', WHERE WHAT IT READS IS OF BULK AT MOST 1048576: true; the input reads as it did. -/
def leapLeapsUptoRow : OpenClaim := { program := "ytenhpfhadbafbaa", sum := "085014780731ffb8487a614e1b29b50dde200bc7412789085b5bd8404e637cf7", func := "colander/colanderlaw23.LeapLeaps", spec := "leapLeaps", unfollowed := true, recurses := true, apart := false, narrowed := true }
def LeapLeapsUptoSaid : Prop := leapLeapsUptoRow.holds Try.pinned (OpenSpec.upto leapLeapsSpec)

/-- 'colanderlaw23.LeapAll', WHERE WHAT IT READS IS OF BULK AT MOST 1048576: true; the input reads as it did. -/
def leapAllUptoRow : OpenClaim := { program := "ytenhpfhadbafbaa", sum := "085014780731ffb8487a614e1b29b50dde200bc7412789085b5bd8404e637cf7", func := "colander/colanderlaw23.LeapAll", spec := "leapAll", unfollowed := true, recurses := true, apart := false, narrowed := true }
def LeapAllUptoSaid : Prop := leapAllUptoRow.holds Try.pinned (OpenSpec.upto leapAllSpec)

/-- 'colanderlaw23.LeapTurns', WHERE WHAT IT READS IS OF BULK AT MOST 1048576: true; the input reads as it did. -/
def leapTurnsUptoRow : OpenClaim := { program := "ytenhpfhadbafbaa", sum := "085014780731ffb8487a614e1b29b50dde200bc7412789085b5bd8404e637cf7", func := "colander/colanderlaw23.LeapTurns", spec := "leapTurns", unfollowed := true, recurses := true, apart := false, narrowed := true }
def LeapTurnsUptoSaid : Prop := leapTurnsUptoRow.holds Try.pinned (OpenSpec.upto leapTurnsSpec)

/-- 'colanderlaw23.LeapMeets', WHERE WHAT IT READS IS OF BULK AT MOST 1048576: true; the input reads as it did. -/
def leapMeetsUptoRow : OpenClaim := { program := "ytenhpfhadbafbaa", sum := "085014780731ffb8487a614e1b29b50dde200bc7412789085b5bd8404e637cf7", func := "colander/colanderlaw23.LeapMeets", spec := "leapMeets", unfollowed := true, recurses := true, apart := false, narrowed := true }
def LeapMeetsUptoSaid : Prop := leapMeetsUptoRow.holds Try.pinned (OpenSpec.upto leapMeetsSpec)

end Rows
end Go.Proofs.Ytenhpfhadbafbaa
