/-
  No cell of these rows narrows 'for every input' (looked for: loops, veiled, ifaces, maps, wideKeys, modest, calm, conditions, laid).
  DERIVED. THE GIVEN ROWS OF THIS SEAT. 7 by the template 'for every input the law returns true; each argument reads behind the call as it read before'; 0 by the template 'total and deterministic' (their statements: YtdeiinfljfgmeaaTotals.lean).
  GIVEN WITH THE SEED: the statements are not yours to turn. If you find one false, say at which input.
  Laid BY PROGRAM, IN A SANDBOX (cutbox-rows.mjs): the forced cells as the released guide's own fill.sh prints them over the translation f08168604e5d5ea4… (all of the seat's roots in one cut). By AI agents, Wed Nov 11 2026. No macro, syntax, notation, axiom, sorry.
-/
import Derived.Test.YtdeiinfljfgmeaaChecked
import GoSem.Claim
import GoSem.ClaimJoined
import GoSem.ClaimMapViews
import Derived.JoinedTies
import Derived.KernelRfl
namespace Go.Proofs.Ytdeiinfljfgmeaa
/- THE CELL 'sum', in the pinned program and in every row, IS THE sha256 OF THE DUMP (.gsa) THAT YtdeiinfljfgmeaaProg.lean LOADS. Nothing in Lean hashes anything: it is a label: what it is worth is what the hold of that sum in a sandbox is worth. -/
noncomputable def Try.pinned : Pinned := { name := "ytdeiinfljfgmeaa", sum := "f08168604e5d5ea46a8da1fb01863579cb2a37dcc780bda32df1d6bc86f59994", checked := Try.checked }
namespace Rows
def none {H : Type} : Left H := { results := [], args := [] }

/-- 'colanderlaw25.HashedParts': WHATEVER THE INPUT: true; the input reads as it did. -/
def hashedPartsSpec : ChangeSpec := { name := "hashedParts", fn := fun _ => fun
  | [d1, d2, d3] => { results := [.lit (.bool true)], args := [d1, d2, d3] }
  | _ => none }
def hashedPartsRow : OpenClaim := { program := "ytdeiinfljfgmeaa", sum := "f08168604e5d5ea46a8da1fb01863579cb2a37dcc780bda32df1d6bc86f59994", func := "colander/colanderlaw25.HashedParts", spec := "hashedParts", unfollowed := true, recurses := true, apart := false }
def HashedPartsSaid : Prop := hashedPartsRow.holds Try.pinned (OpenSpec.ofChange hashedPartsSpec)

/-- ITS FALSE NEIGHBOUR: 'it returns false'. Refute it at one input. -/
def hashedPartsWrong : ChangeSpec := { name := "hashedParts", fn := fun _ => fun
  | [d1, d2, d3] => { results := [.lit (.bool false)], args := [d1, d2, d3] }
  | _ => none }
def HashedPartsWrongFalsely : Prop := hashedPartsRow.holds Try.pinned (OpenSpec.ofChange hashedPartsWrong)

/-- 'colanderlaw25.HashedJoins': WHATEVER THE INPUT: true; the input reads as it did. -/
def hashedJoinsSpec : ChangeSpec := { name := "hashedJoins", fn := fun _ => fun
  | [d1, d2] => { results := [.lit (.bool true)], args := [d1, d2] }
  | _ => none }
def hashedJoinsRow : OpenClaim := { program := "ytdeiinfljfgmeaa", sum := "f08168604e5d5ea46a8da1fb01863579cb2a37dcc780bda32df1d6bc86f59994", func := "colander/colanderlaw25.HashedJoins", spec := "hashedJoins", unfollowed := true, recurses := true, apart := false }
def HashedJoinsSaid : Prop := hashedJoinsRow.holds Try.pinned (OpenSpec.ofChange hashedJoinsSpec)

/-- ITS FALSE NEIGHBOUR: 'it returns false'. Refute it at one input. -/
def hashedJoinsWrong : ChangeSpec := { name := "hashedJoins", fn := fun _ => fun
  | [d1, d2] => { results := [.lit (.bool false)], args := [d1, d2] }
  | _ => none }
def HashedJoinsWrongFalsely : Prop := hashedJoinsRow.holds Try.pinned (OpenSpec.ofChange hashedJoinsWrong)

/-- 'colanderlaw25.HashedAll': WHATEVER THE INPUT: true; the input reads as it did. -/
def hashedAllSpec : ChangeSpec := { name := "hashedAll", fn := fun _ => fun
  | [d] => { results := [.lit (.bool true)], args := [d] }
  | _ => none }
def hashedAllRow : OpenClaim := { program := "ytdeiinfljfgmeaa", sum := "f08168604e5d5ea46a8da1fb01863579cb2a37dcc780bda32df1d6bc86f59994", func := "colander/colanderlaw25.HashedAll", spec := "hashedAll", unfollowed := true, recurses := true, apart := false }
def HashedAllSaid : Prop := hashedAllRow.holds Try.pinned (OpenSpec.ofChange hashedAllSpec)

/-- ITS FALSE NEIGHBOUR: 'it returns false'. Refute it at one input. -/
def hashedAllWrong : ChangeSpec := { name := "hashedAll", fn := fun _ => fun
  | [d] => { results := [.lit (.bool false)], args := [d] }
  | _ => none }
def HashedAllWrongFalsely : Prop := hashedAllRow.holds Try.pinned (OpenSpec.ofChange hashedAllWrong)

/-- 'colanderlaw25.HashedTurns': WHATEVER THE INPUT: true; the input reads as it did. -/
def hashedTurnsSpec : ChangeSpec := { name := "hashedTurns", fn := fun _ => fun
  | [d1, d2] => { results := [.lit (.bool true)], args := [d1, d2] }
  | _ => none }
def hashedTurnsRow : OpenClaim := { program := "ytdeiinfljfgmeaa", sum := "f08168604e5d5ea46a8da1fb01863579cb2a37dcc780bda32df1d6bc86f59994", func := "colander/colanderlaw25.HashedTurns", spec := "hashedTurns", unfollowed := true, recurses := true, apart := false }
def HashedTurnsSaid : Prop := hashedTurnsRow.holds Try.pinned (OpenSpec.ofChange hashedTurnsSpec)

/-- ITS FALSE NEIGHBOUR: 'it returns false'. Refute it at one input. -/
def hashedTurnsWrong : ChangeSpec := { name := "hashedTurns", fn := fun _ => fun
  | [d1, d2] => { results := [.lit (.bool false)], args := [d1, d2] }
  | _ => none }
def HashedTurnsWrongFalsely : Prop := hashedTurnsRow.holds Try.pinned (OpenSpec.ofChange hashedTurnsWrong)

/-- 'colanderlaw25.HashedSemis': WHATEVER THE INPUT: true; the input reads as it did. -/
def hashedSemisSpec : ChangeSpec := { name := "hashedSemis", fn := fun _ => fun
  | [d1, d2] => { results := [.lit (.bool true)], args := [d1, d2] }
  | _ => none }
def hashedSemisRow : OpenClaim := { program := "ytdeiinfljfgmeaa", sum := "f08168604e5d5ea46a8da1fb01863579cb2a37dcc780bda32df1d6bc86f59994", func := "colander/colanderlaw25.HashedSemis", spec := "hashedSemis", unfollowed := true, recurses := true, apart := false }
def HashedSemisSaid : Prop := hashedSemisRow.holds Try.pinned (OpenSpec.ofChange hashedSemisSpec)

/-- ITS FALSE NEIGHBOUR: 'it returns false'. Refute it at one input. -/
def hashedSemisWrong : ChangeSpec := { name := "hashedSemis", fn := fun _ => fun
  | [d1, d2] => { results := [.lit (.bool false)], args := [d1, d2] }
  | _ => none }
def HashedSemisWrongFalsely : Prop := hashedSemisRow.holds Try.pinned (OpenSpec.ofChange hashedSemisWrong)

/-- 'colanderlaw25.HashedOf': WHATEVER THE INPUT: true; the input reads as it did. -/
def hashedOfSpec : ChangeSpec := { name := "hashedOf", fn := fun _ => fun
  | [d1, d2] => { results := [.lit (.bool true)], args := [d1, d2] }
  | _ => none }
def hashedOfRow : OpenClaim := { program := "ytdeiinfljfgmeaa", sum := "f08168604e5d5ea46a8da1fb01863579cb2a37dcc780bda32df1d6bc86f59994", func := "colander/colanderlaw25.HashedOf", spec := "hashedOf", unfollowed := true, recurses := true, apart := false }
def HashedOfSaid : Prop := hashedOfRow.holds Try.pinned (OpenSpec.ofChange hashedOfSpec)

/-- ITS FALSE NEIGHBOUR: 'it returns false'. Refute it at one input. -/
def hashedOfWrong : ChangeSpec := { name := "hashedOf", fn := fun _ => fun
  | [d1, d2] => { results := [.lit (.bool false)], args := [d1, d2] }
  | _ => none }
def HashedOfWrongFalsely : Prop := hashedOfRow.holds Try.pinned (OpenSpec.ofChange hashedOfWrong)

/-- 'colanderlaw25.HashedTwice': WHATEVER THE INPUT: true; the input reads as it did. -/
def hashedTwiceSpec : ChangeSpec := { name := "hashedTwice", fn := fun _ => fun
  | [d1, d2, d3] => { results := [.lit (.bool true)], args := [d1, d2, d3] }
  | _ => none }
def hashedTwiceRow : OpenClaim := { program := "ytdeiinfljfgmeaa", sum := "f08168604e5d5ea46a8da1fb01863579cb2a37dcc780bda32df1d6bc86f59994", func := "colander/colanderlaw25.HashedTwice", spec := "hashedTwice", unfollowed := true, recurses := true, apart := false }
def HashedTwiceSaid : Prop := hashedTwiceRow.holds Try.pinned (OpenSpec.ofChange hashedTwiceSpec)

/-- ITS FALSE NEIGHBOUR: 'it returns false'. Refute it at one input. -/
def hashedTwiceWrong : ChangeSpec := { name := "hashedTwice", fn := fun _ => fun
  | [d1, d2, d3] => { results := [.lit (.bool false)], args := [d1, d2, d3] }
  | _ => none }
def HashedTwiceWrongFalsely : Prop := hashedTwiceRow.holds Try.pinned (OpenSpec.ofChange hashedTwiceWrong)

/- THE SECOND FORM. 'bulk': how many values and letters a reading holds, each counted each time it is reached (what is shared counts as often as it is met; a slice's spare places count too). A statement '..UptoSaid' is the law's where the arguments, and the package variables that the reading takes, are together of bulk at most 1048576: NARROWER than '..Said'. Prove '..Said' where nothing that the law and all that it calls make is longer than what came in: it says more and counts as full. Else prove '..UptoSaid'. A law counts once. -/
mutual
def uptoBulk {H : Type} : DataW H → Nat
  | .lit (.string bytes) => bytes.length + 1
  | .lit _ => 1
  | .nil => 1
  | .ptr d => uptoBulk d + 1
  | .slice elems spare => uptoBulkAll elems + uptoBulkAll spare + 1
  | .agg parts => uptoBulkAll parts + 1
  | .iface _ d => uptoBulk d + 1
  | .map entries => uptoBulkEntries entries + 1
  | .held _ => 1
def uptoBulkAll {H : Type} : List (DataW H) → Nat
  | [] => 0
  | d :: r => uptoBulk d + uptoBulkAll r
def uptoBulkEntries {H : Type} : List (Lit × DataW H) → Nat
  | [] => 0
  | x :: r => uptoBulkEntry x + uptoBulkEntries r
def uptoBulkEntry {H : Type} : Lit × DataW H → Nat
  | (.string bytes, d) => bytes.length + uptoBulk d + 1
  | (_, d) => uptoBulk d + 1
 end
def uptoSmall : (H : Type) → List (DataW H) → Bool := fun _ ds => decide (uptoBulkAll ds ≤ 1048576)
def OpenSpec.upto (s : _root_.Go.ChangeSpec) : _root_.Go.OpenSpec := { _root_.Go.OpenSpec.ofChange s with cond := some uptoSmall }

/-- 'colanderlaw25.HashedParts', WHERE WHAT IT READS IS OF BULK AT MOST 1048576: true; the input reads as it did. -/
def hashedPartsUptoRow : OpenClaim := { program := "ytdeiinfljfgmeaa", sum := "f08168604e5d5ea46a8da1fb01863579cb2a37dcc780bda32df1d6bc86f59994", func := "colander/colanderlaw25.HashedParts", spec := "hashedParts", unfollowed := true, recurses := true, apart := false, narrowed := true }
def HashedPartsUptoSaid : Prop := hashedPartsUptoRow.holds Try.pinned (OpenSpec.upto hashedPartsSpec)

/-- 'colanderlaw25.HashedJoins', WHERE WHAT IT READS IS OF BULK AT MOST 1048576: true; the input reads as it did. -/
def hashedJoinsUptoRow : OpenClaim := { program := "ytdeiinfljfgmeaa", sum := "f08168604e5d5ea46a8da1fb01863579cb2a37dcc780bda32df1d6bc86f59994", func := "colander/colanderlaw25.HashedJoins", spec := "hashedJoins", unfollowed := true, recurses := true, apart := false, narrowed := true }
def HashedJoinsUptoSaid : Prop := hashedJoinsUptoRow.holds Try.pinned (OpenSpec.upto hashedJoinsSpec)

/-- 'colanderlaw25.HashedAll', WHERE WHAT IT READS IS OF BULK AT MOST 1048576: true; the input reads as it did. -/
def hashedAllUptoRow : OpenClaim := { program := "ytdeiinfljfgmeaa", sum := "f08168604e5d5ea46a8da1fb01863579cb2a37dcc780bda32df1d6bc86f59994", func := "colander/colanderlaw25.HashedAll", spec := "hashedAll", unfollowed := true, recurses := true, apart := false, narrowed := true }
def HashedAllUptoSaid : Prop := hashedAllUptoRow.holds Try.pinned (OpenSpec.upto hashedAllSpec)

/-- 'colanderlaw25.HashedTurns', WHERE WHAT IT READS IS OF BULK AT MOST 1048576: true; the input reads as it did. -/
def hashedTurnsUptoRow : OpenClaim := { program := "ytdeiinfljfgmeaa", sum := "f08168604e5d5ea46a8da1fb01863579cb2a37dcc780bda32df1d6bc86f59994", func := "colander/colanderlaw25.HashedTurns", spec := "hashedTurns", unfollowed := true, recurses := true, apart := false, narrowed := true }
def HashedTurnsUptoSaid : Prop := hashedTurnsUptoRow.holds Try.pinned (OpenSpec.upto hashedTurnsSpec)

/-- 'colanderlaw25.HashedSemis', WHERE WHAT IT READS IS OF BULK AT MOST 1048576: true; the input reads as it did. -/
def hashedSemisUptoRow : OpenClaim := { program := "ytdeiinfljfgmeaa", sum := "f08168604e5d5ea46a8da1fb01863579cb2a37dcc780bda32df1d6bc86f59994", func := "colander/colanderlaw25.HashedSemis", spec := "hashedSemis", unfollowed := true, recurses := true, apart := false, narrowed := true }
def HashedSemisUptoSaid : Prop := hashedSemisUptoRow.holds Try.pinned (OpenSpec.upto hashedSemisSpec)

/-- 'colanderlaw25.HashedOf', WHERE WHAT IT READS IS OF BULK AT MOST 1048576: true; the input reads as it did. -/
def hashedOfUptoRow : OpenClaim := { program := "ytdeiinfljfgmeaa", sum := "f08168604e5d5ea46a8da1fb01863579cb2a37dcc780bda32df1d6bc86f59994", func := "colander/colanderlaw25.HashedOf", spec := "hashedOf", unfollowed := true, recurses := true, apart := false, narrowed := true }
def HashedOfUptoSaid : Prop := hashedOfUptoRow.holds Try.pinned (OpenSpec.upto hashedOfSpec)

/-- 'colanderlaw25.HashedTwice', WHERE WHAT IT READS IS OF BULK AT MOST 1048576: true; the input reads as it did. -/
def hashedTwiceUptoRow : OpenClaim := { program := "ytdeiinfljfgmeaa", sum := "f08168604e5d5ea46a8da1fb01863579cb2a37dcc780bda32df1d6bc86f59994", func := "colander/colanderlaw25.HashedTwice", spec := "hashedTwice", unfollowed := true, recurses := true, apart := false, narrowed := true }
def HashedTwiceUptoSaid : Prop := hashedTwiceUptoRow.holds Try.pinned (OpenSpec.upto hashedTwiceSpec)

end Rows
end Go.Proofs.Ytdeiinfljfgmeaa
