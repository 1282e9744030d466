/-
  No cell of these rows narrows 'for every input' (looked for: loops, veiled, ifaces, maps, wideKeys, modest, calm, conditions, laid).
  DERIVED. THE GIVEN ROWS OF THIS SEAT. 6 by the template 'for every input the law returns true; each argument reads behind the call as it read before'; 0 by the template 'total and deterministic' (their statements: YtgmnohjaciemmaaTotals.lean).
  GIVEN WITH THE SEED: the statements are not yours to turn. If you find one false, say at which input.
  Laid BY PROGRAM, IN A SANDBOX (cutbox-rows.mjs): the forced cells as the released guide's own fill.sh prints them over the translation 5689f994b008702b… (all of the seat's roots in one cut). By AI agents, Wed Nov 11 2026. No macro, syntax, notation, axiom, sorry.
-/
import Derived.Test.YtgmnohjaciemmaaChecked
import GoSem.Claim
import GoSem.ClaimJoined
import GoSem.ClaimMapViews
import Derived.JoinedTies
import Derived.KernelRfl
namespace Go.Proofs.Ytgmnohjaciemmaa
/- THE CELL 'sum', in the pinned program and in every row, IS THE sha256 OF THE DUMP (.gsa) THAT YtgmnohjaciemmaaProg.lean LOADS. Nothing in Lean hashes anything: it is a label: what it is worth is what the hold of that sum in a sandbox is worth. -/
noncomputable def Try.pinned : Pinned := { name := "ytgmnohjaciemmaa", sum := "5689f994b008702b9fd3b3ad3c72d90a65e9f7eab2e1dc984bbd011410f4f5bf", checked := Try.checked }
namespace Rows
def none {H : Type} : Left H := { results := [], args := [] }

/-- 'templelaw13.Automata': WHATEVER THE INPUT: true; the input reads as it did. -/
def automataSpec : ChangeSpec := { name := "automata", fn := fun _ => fun
  | [d1, d2] => { results := [.lit (.bool true)], args := [d1, d2] }
  | _ => none }
def automataRow : OpenClaim := { program := "ytgmnohjaciemmaa", sum := "5689f994b008702b9fd3b3ad3c72d90a65e9f7eab2e1dc984bbd011410f4f5bf", func := "temple/templelaw13.Automata", spec := "automata", unfollowed := true, recurses := true, plainKeys := false, apart := false }
def AutomataSaid : Prop := automataRow.holds Try.pinned (OpenSpec.ofChange automataSpec)

/-- ITS FALSE NEIGHBOUR: 'it returns false'. Refute it at one input. -/
def automataWrong : ChangeSpec := { name := "automata", fn := fun _ => fun
  | [d1, d2] => { results := [.lit (.bool false)], args := [d1, d2] }
  | _ => none }
def AutomataWrongFalsely : Prop := automataRow.holds Try.pinned (OpenSpec.ofChange automataWrong)

/-- 'templelaw13.AutomataMoves': WHATEVER THE INPUT: true; the input reads as it did. -/
def automataMovesSpec : ChangeSpec := { name := "automataMoves", fn := fun _ => fun
  | [d] => { results := [.lit (.bool true)], args := [d] }
  | _ => none }
def automataMovesRow : OpenClaim := { program := "ytgmnohjaciemmaa", sum := "5689f994b008702b9fd3b3ad3c72d90a65e9f7eab2e1dc984bbd011410f4f5bf", func := "temple/templelaw13.AutomataMoves", spec := "automataMoves", unfollowed := true, recurses := true, plainKeys := false, apart := false }
def AutomataMovesSaid : Prop := automataMovesRow.holds Try.pinned (OpenSpec.ofChange automataMovesSpec)

/-- ITS FALSE NEIGHBOUR: 'it returns false'. Refute it at one input. -/
def automataMovesWrong : ChangeSpec := { name := "automataMoves", fn := fun _ => fun
  | [d] => { results := [.lit (.bool false)], args := [d] }
  | _ => none }
def AutomataMovesWrongFalsely : Prop := automataMovesRow.holds Try.pinned (OpenSpec.ofChange automataMovesWrong)

/-- 'templelaw13.ClosesTwice': WHATEVER THE INPUT: true; the input reads as it did. -/
def closesTwiceSpec : ChangeSpec := { name := "closesTwice", fn := fun _ => fun
  | [d1, d2, d3] => { results := [.lit (.bool true)], args := [d1, d2, d3] }
  | _ => none }
def closesTwiceRow : OpenClaim := { program := "ytgmnohjaciemmaa", sum := "5689f994b008702b9fd3b3ad3c72d90a65e9f7eab2e1dc984bbd011410f4f5bf", func := "temple/templelaw13.ClosesTwice", spec := "closesTwice", unfollowed := true, recurses := true, plainKeys := false, apart := false }
def ClosesTwiceSaid : Prop := closesTwiceRow.holds Try.pinned (OpenSpec.ofChange closesTwiceSpec)

/-- ITS FALSE NEIGHBOUR: 'it returns false'. Refute it at one input. -/
def closesTwiceWrong : ChangeSpec := { name := "closesTwice", fn := fun _ => fun
  | [d1, d2, d3] => { results := [.lit (.bool false)], args := [d1, d2, d3] }
  | _ => none }
def ClosesTwiceWrongFalsely : Prop := closesTwiceRow.holds Try.pinned (OpenSpec.ofChange closesTwiceWrong)

/-- 'templelaw13.AutomataRows': WHATEVER THE INPUT: true; the input reads as it did. -/
def automataRowsSpec : ChangeSpec := { name := "automataRows", fn := fun _ => fun
  | [d1, d2] => { results := [.lit (.bool true)], args := [d1, d2] }
  | _ => none }
def automataRowsRow : OpenClaim := { program := "ytgmnohjaciemmaa", sum := "5689f994b008702b9fd3b3ad3c72d90a65e9f7eab2e1dc984bbd011410f4f5bf", func := "temple/templelaw13.AutomataRows", spec := "automataRows", unfollowed := true, recurses := true, plainKeys := false, apart := false }
def AutomataRowsSaid : Prop := automataRowsRow.holds Try.pinned (OpenSpec.ofChange automataRowsSpec)

/-- ITS FALSE NEIGHBOUR: 'it returns false'. Refute it at one input. -/
def automataRowsWrong : ChangeSpec := { name := "automataRows", fn := fun _ => fun
  | [d1, d2] => { results := [.lit (.bool false)], args := [d1, d2] }
  | _ => none }
def AutomataRowsWrongFalsely : Prop := automataRowsRow.holds Try.pinned (OpenSpec.ofChange automataRowsWrong)

/-- 'templelaw13.AutomataRuns': WHATEVER THE INPUT: true; the input reads as it did. -/
def automataRunsSpec : ChangeSpec := { name := "automataRuns", fn := fun _ => fun
  | [d] => { results := [.lit (.bool true)], args := [d] }
  | _ => none }
def automataRunsRow : OpenClaim := { program := "ytgmnohjaciemmaa", sum := "5689f994b008702b9fd3b3ad3c72d90a65e9f7eab2e1dc984bbd011410f4f5bf", func := "temple/templelaw13.AutomataRuns", spec := "automataRuns", unfollowed := true, recurses := true, plainKeys := false, apart := false }
def AutomataRunsSaid : Prop := automataRunsRow.holds Try.pinned (OpenSpec.ofChange automataRunsSpec)

/-- ITS FALSE NEIGHBOUR: 'it returns false'. Refute it at one input. -/
def automataRunsWrong : ChangeSpec := { name := "automataRuns", fn := fun _ => fun
  | [d] => { results := [.lit (.bool false)], args := [d] }
  | _ => none }
def AutomataRunsWrongFalsely : Prop := automataRunsRow.holds Try.pinned (OpenSpec.ofChange automataRunsWrong)

/-- 'templelaw13.ClosesNames': WHATEVER THE INPUT: true; the input reads as it did. -/
def closesNamesSpec : ChangeSpec := { name := "closesNames", fn := fun _ => fun
  | [d1, d2, d3] => { results := [.lit (.bool true)], args := [d1, d2, d3] }
  | _ => none }
def closesNamesRow : OpenClaim := { program := "ytgmnohjaciemmaa", sum := "5689f994b008702b9fd3b3ad3c72d90a65e9f7eab2e1dc984bbd011410f4f5bf", func := "temple/templelaw13.ClosesNames", spec := "closesNames", unfollowed := true, recurses := true, plainKeys := false, apart := false }
def ClosesNamesSaid : Prop := closesNamesRow.holds Try.pinned (OpenSpec.ofChange closesNamesSpec)

/-- ITS FALSE NEIGHBOUR: 'it returns false'. Refute it at one input. -/
def closesNamesWrong : ChangeSpec := { name := "closesNames", fn := fun _ => fun
  | [d1, d2, d3] => { results := [.lit (.bool false)], args := [d1, d2, d3] }
  | _ => none }
def ClosesNamesWrongFalsely : Prop := closesNamesRow.holds Try.pinned (OpenSpec.ofChange closesNamesWrong)

/- THE SECOND FORM. 'bulk': how many values and letters a reading holds, each counted each time it is reached (what is shared counts as often as it is met; a slice's spare places count too). A statement '..UptoSaid' is the law's where the arguments, and the package variables that the reading takes, are together of bulk at most 1048576: NARROWER than '..Said'. Prove '..Said' where nothing that the law and all that it calls make is longer than what came in: it says more and counts as full. Else prove '..UptoSaid'. A law counts once. -/
mutual
def uptoBulk {H : Type} : DataW H → Nat
  | .lit (.string bytes) => bytes.length + 1
  | .lit _ => 1
  | .nil => 1
  | .ptr d => uptoBulk d + 1
  | .slice elems spare => uptoBulkAll elems + uptoBulkAll spare + 1
  | .agg parts => uptoBulkAll parts + 1
  | .iface _ d => uptoBulk d + 1
  | .map entries => uptoBulkEntries entries + 1
  | .held _ => 1
def uptoBulkAll {H : Type} : List (DataW H) → Nat
  | [] => 0
  | d :: r => uptoBulk d + uptoBulkAll r
def uptoBulkEntries {H : Type} : List (Lit × DataW H) → Nat
  | [] => 0
  | x :: r => uptoBulkEntry x + uptoBulkEntries r
def uptoBulkEntry {H : Type} : Lit × DataW H → Nat
  | (.string bytes, d) => bytes.length + uptoBulk d + 1
  | (_, d) => uptoBulk d + 1
 end
def uptoSmall : (H : Type) → List (DataW H) → Bool := fun _ ds => decide (uptoBulkAll ds ≤ 1048576)
def OpenSpec.upto (s : _root_.Go.ChangeSpec) : _root_.Go.OpenSpec := { _root_.Go.OpenSpec.ofChange s with cond := some uptoSmall }

/-- 'templelaw13.Automata', WHERE WHAT IT READS IS OF BULK AT MOST 1048576: true; the input reads as it did. -/
def automataUptoRow : OpenClaim := { program := "ytgmnohjaciemmaa", sum := "5689f994b008702b9fd3b3ad3c72d90a65e9f7eab2e1dc984bbd011410f4f5bf", func := "temple/templelaw13.Automata", spec := "automata", unfollowed := true, recurses := true, plainKeys := false, apart := false, narrowed := true }
def AutomataUptoSaid : Prop := automataUptoRow.holds Try.pinned (OpenSpec.upto automataSpec)

/-- 'templelaw13.AutomataMoves', WHERE WHAT IT READS IS OF BULK AT MOST 1048576: true; the input reads as it did. -/
def automataMovesUptoRow : OpenClaim := { program := "ytgmnohjaciemmaa", sum := "5689f994b008702b9fd3b3ad3c72d90a65e9f7eab2e1dc984bbd011410f4f5bf", func := "temple/templelaw13.AutomataMoves", spec := "automataMoves", unfollowed := true, recurses := true, plainKeys := false, apart := false, narrowed := true }
def AutomataMovesUptoSaid : Prop := automataMovesUptoRow.holds Try.pinned (OpenSpec.upto automataMovesSpec)

/-- 'templelaw13.ClosesTwice', WHERE WHAT IT READS IS OF BULK AT MOST 1048576: true; the input reads as it did. -/
def closesTwiceUptoRow : OpenClaim := { program := "ytgmnohjaciemmaa", sum := "5689f994b008702b9fd3b3ad3c72d90a65e9f7eab2e1dc984bbd011410f4f5bf", func := "temple/templelaw13.ClosesTwice", spec := "closesTwice", unfollowed := true, recurses := true, plainKeys := false, apart := false, narrowed := true }
def ClosesTwiceUptoSaid : Prop := closesTwiceUptoRow.holds Try.pinned (OpenSpec.upto closesTwiceSpec)

/-- 'templelaw13.AutomataRows', WHERE WHAT IT READS IS OF BULK AT MOST 1048576: true; the input reads as it did. -/
def automataRowsUptoRow : OpenClaim := { program := "ytgmnohjaciemmaa", sum := "5689f994b008702b9fd3b3ad3c72d90a65e9f7eab2e1dc984bbd011410f4f5bf", func := "temple/templelaw13.AutomataRows", spec := "automataRows", unfollowed := true, recurses := true, plainKeys := false, apart := false, narrowed := true }
def AutomataRowsUptoSaid : Prop := automataRowsUptoRow.holds Try.pinned (OpenSpec.upto automataRowsSpec)

/-- 'templelaw13.AutomataRuns', WHERE WHAT IT READS IS OF BULK AT MOST 1048576: true; the input reads as it did. -/
def automataRunsUptoRow : OpenClaim := { program := "ytgmnohjaciemmaa", sum := "5689f994b008702b9fd3b3ad3c72d90a65e9f7eab2e1dc984bbd011410f4f5bf", func := "temple/templelaw13.AutomataRuns", spec := "automataRuns", unfollowed := true, recurses := true, plainKeys := false, apart := false, narrowed := true }
def AutomataRunsUptoSaid : Prop := automataRunsUptoRow.holds Try.pinned (OpenSpec.upto automataRunsSpec)

/-- 'templelaw13.ClosesNames', WHERE WHAT IT READS IS OF BULK AT MOST 1048576: true; the input reads as it did. -/
def closesNamesUptoRow : OpenClaim := { program := "ytgmnohjaciemmaa", sum := "5689f994b008702b9fd3b3ad3c72d90a65e9f7eab2e1dc984bbd011410f4f5bf", func := "temple/templelaw13.ClosesNames", spec := "closesNames", unfollowed := true, recurses := true, plainKeys := false, apart := false, narrowed := true }
def ClosesNamesUptoSaid : Prop := closesNamesUptoRow.holds Try.pinned (OpenSpec.upto closesNamesSpec)

end Rows
end Go.Proofs.Ytgmnohjaciemmaa
