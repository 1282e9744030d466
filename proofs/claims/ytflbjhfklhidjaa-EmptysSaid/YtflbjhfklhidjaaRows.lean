/-
  No cell of these rows narrows 'for every input' (looked for: loops, veiled, ifaces, maps, wideKeys, modest, calm, conditions, laid).
  DERIVED. THE GIVEN ROWS OF THIS SEAT. 5 by the template 'for every input the law returns true; each argument reads behind the call as it read before'; 0 by the template 'total and deterministic' (their statements: YtflbjhfklhidjaaTotals.lean).
  GIVEN WITH THE SEED: the statements are not yours to turn. If you find one false, say at which input.
  Laid BY PROGRAM, IN A SANDBOX (cutbox-rows.mjs): the forced cells as the released guide's own fill.sh prints them over the translation 0a72fa13d988e3bd… (all of the seat's roots in one cut). By AI agents, Wed Nov 11 2026. No macro, syntax, notation, axiom, sorry.
-/
import Derived.Test.YtflbjhfklhidjaaChecked
import GoSem.Claim
import GoSem.ClaimJoined
import GoSem.ClaimMapViews
import Derived.JoinedTies
import Derived.KernelRfl
namespace Go.Proofs.Ytflbjhfklhidjaa
/- THE CELL 'sum', in the pinned program and in every row, IS THE sha256 OF THE DUMP (.gsa) THAT YtflbjhfklhidjaaProg.lean LOADS. Nothing in Lean hashes anything: it is a label: what it is worth is what the hold of that sum in a sandbox is worth. -/
noncomputable def Try.pinned : Pinned := { name := "ytflbjhfklhidjaa", sum := "0a72fa13d988e3bd96830b0dbe626660db4fa911be9335890126014a6cf0bad0", checked := Try.checked }
namespace Rows
def none {H : Type} : Left H := { results := [], args := [] }

/-- 'templelaw9.Emptys': WHATEVER THE INPUT: true; the input reads as it did. -/
def emptysSpec : ChangeSpec := { name := "emptys", fn := fun _ => fun
  | [d] => { results := [.lit (.bool true)], args := [d] }
  | _ => none }
def emptysRow : OpenClaim := { program := "ytflbjhfklhidjaa", sum := "0a72fa13d988e3bd96830b0dbe626660db4fa911be9335890126014a6cf0bad0", func := "temple/templelaw9.Emptys", spec := "emptys", unfollowed := true, recurses := true, plainKeys := false, apart := false }
def EmptysSaid : Prop := emptysRow.holds Try.pinned (OpenSpec.ofChange emptysSpec)

/-- ITS FALSE NEIGHBOUR: 'it returns false'. Refute it at one input. -/
def emptysWrong : ChangeSpec := { name := "emptys", fn := fun _ => fun
  | [d] => { results := [.lit (.bool false)], args := [d] }
  | _ => none }
def EmptysWrongFalsely : Prop := emptysRow.holds Try.pinned (OpenSpec.ofChange emptysWrong)

/-- 'templelaw9.EmptysHold': WHATEVER THE INPUT: true; the input reads as it did. -/
def emptysHoldSpec : ChangeSpec := { name := "emptysHold", fn := fun _ => fun
  | [d] => { results := [.lit (.bool true)], args := [d] }
  | _ => none }
def emptysHoldRow : OpenClaim := { program := "ytflbjhfklhidjaa", sum := "0a72fa13d988e3bd96830b0dbe626660db4fa911be9335890126014a6cf0bad0", func := "temple/templelaw9.EmptysHold", spec := "emptysHold", unfollowed := true, recurses := true, plainKeys := false, apart := false }
def EmptysHoldSaid : Prop := emptysHoldRow.holds Try.pinned (OpenSpec.ofChange emptysHoldSpec)

/-- ITS FALSE NEIGHBOUR: 'it returns false'. Refute it at one input. -/
def emptysHoldWrong : ChangeSpec := { name := "emptysHold", fn := fun _ => fun
  | [d] => { results := [.lit (.bool false)], args := [d] }
  | _ => none }
def EmptysHoldWrongFalsely : Prop := emptysHoldRow.holds Try.pinned (OpenSpec.ofChange emptysHoldWrong)

/-- 'templelaw9.EmptysNegs': WHATEVER THE INPUT: true; the input reads as it did. -/
def emptysNegsSpec : ChangeSpec := { name := "emptysNegs", fn := fun _ => fun
  | [d1, d2] => { results := [.lit (.bool true)], args := [d1, d2] }
  | _ => none }
def emptysNegsRow : OpenClaim := { program := "ytflbjhfklhidjaa", sum := "0a72fa13d988e3bd96830b0dbe626660db4fa911be9335890126014a6cf0bad0", func := "temple/templelaw9.EmptysNegs", spec := "emptysNegs", unfollowed := true, recurses := true, plainKeys := false, apart := false }
def EmptysNegsSaid : Prop := emptysNegsRow.holds Try.pinned (OpenSpec.ofChange emptysNegsSpec)

/-- ITS FALSE NEIGHBOUR: 'it returns false'. Refute it at one input. -/
def emptysNegsWrong : ChangeSpec := { name := "emptysNegs", fn := fun _ => fun
  | [d1, d2] => { results := [.lit (.bool false)], args := [d1, d2] }
  | _ => none }
def EmptysNegsWrongFalsely : Prop := emptysNegsRow.holds Try.pinned (OpenSpec.ofChange emptysNegsWrong)

/-- 'templelaw9.EmptysRows': WHATEVER THE INPUT: true; the input reads as it did. -/
def emptysRowsSpec : ChangeSpec := { name := "emptysRows", fn := fun _ => fun
  | [d] => { results := [.lit (.bool true)], args := [d] }
  | _ => none }
def emptysRowsRow : OpenClaim := { program := "ytflbjhfklhidjaa", sum := "0a72fa13d988e3bd96830b0dbe626660db4fa911be9335890126014a6cf0bad0", func := "temple/templelaw9.EmptysRows", spec := "emptysRows", unfollowed := true, recurses := true, plainKeys := false, apart := false }
def EmptysRowsSaid : Prop := emptysRowsRow.holds Try.pinned (OpenSpec.ofChange emptysRowsSpec)

/-- ITS FALSE NEIGHBOUR: 'it returns false'. Refute it at one input. -/
def emptysRowsWrong : ChangeSpec := { name := "emptysRows", fn := fun _ => fun
  | [d] => { results := [.lit (.bool false)], args := [d] }
  | _ => none }
def EmptysRowsWrongFalsely : Prop := emptysRowsRow.holds Try.pinned (OpenSpec.ofChange emptysRowsWrong)

/-- 'templelaw9.EmptysMore': WHATEVER THE INPUT: true; the input reads as it did. -/
def emptysMoreSpec : ChangeSpec := { name := "emptysMore", fn := fun _ => fun
  | [d] => { results := [.lit (.bool true)], args := [d] }
  | _ => none }
def emptysMoreRow : OpenClaim := { program := "ytflbjhfklhidjaa", sum := "0a72fa13d988e3bd96830b0dbe626660db4fa911be9335890126014a6cf0bad0", func := "temple/templelaw9.EmptysMore", spec := "emptysMore", unfollowed := true, recurses := true, plainKeys := false, apart := false }
def EmptysMoreSaid : Prop := emptysMoreRow.holds Try.pinned (OpenSpec.ofChange emptysMoreSpec)

/-- ITS FALSE NEIGHBOUR: 'it returns false'. Refute it at one input. -/
def emptysMoreWrong : ChangeSpec := { name := "emptysMore", fn := fun _ => fun
  | [d] => { results := [.lit (.bool false)], args := [d] }
  | _ => none }
def EmptysMoreWrongFalsely : Prop := emptysMoreRow.holds Try.pinned (OpenSpec.ofChange emptysMoreWrong)

/- THE SECOND FORM. 'bulk': how many values and letters a reading holds, each counted each time it is reached (what is shared counts as often as it is met; a slice's spare places count too). A statement '..UptoSaid' is the law's where the arguments, and the package variables that the reading takes, are together of bulk at most 1048576: NARROWER than '..Said'. Prove '..Said' where nothing that the law and all that it calls make is longer than what came in: it says more and counts as full. Else prove '..UptoSaid'. A law counts once. -/
mutual
def uptoBulk {H : Type} : DataW H → Nat
  | .lit (.string bytes) => bytes.length + 1
  | .lit _ => 1
  | .nil => 1
  | .ptr d => uptoBulk d + 1
  | .slice elems spare => uptoBulkAll elems + uptoBulkAll spare + 1
  | .agg parts => uptoBulkAll parts + 1
  | .iface _ d => uptoBulk d + 1
  | .map entries => uptoBulkEntries entries + 1
  | .held _ => 1
def uptoBulkAll {H : Type} : List (DataW H) → Nat
  | [] => 0
  | d :: r => uptoBulk d + uptoBulkAll r
def uptoBulkEntries {H : Type} : List (Lit × DataW H) → Nat
  | [] => 0
  | x :: r => uptoBulkEntry x + uptoBulkEntries r
def uptoBulkEntry {H : Type} : Lit × DataW H → Nat
  | (.string bytes, d) => bytes.length + uptoBulk d + 1
  | (_, d) => uptoBulk d + 1
 end
def uptoSmall : (H : Type) → List (DataW H) → Bool := fun _ ds => decide (uptoBulkAll ds ≤ 1048576)
def OpenSpec.upto (s : _root_.Go.ChangeSpec) : _root_.Go.OpenSpec := { _root_.Go.OpenSpec.ofChange s with cond := some uptoSmall }

/-- 'templelaw9.Emptys', WHERE WHAT IT READS IS OF BULK AT MOST 1048576: true; the input reads as it did. -/
def emptysUptoRow : OpenClaim := { program := "ytflbjhfklhidjaa", sum := "0a72fa13d988e3bd96830b0dbe626660db4fa911be9335890126014a6cf0bad0", func := "temple/templelaw9.Emptys", spec := "emptys", unfollowed := true, recurses := true, plainKeys := false, apart := false, narrowed := true }
def EmptysUptoSaid : Prop := emptysUptoRow.holds Try.pinned (OpenSpec.upto emptysSpec)

/-- 'templelaw9.EmptysHold', WHERE WHAT IT READS IS OF BULK AT MOST 1048576: true; the input reads as it did. -/
def emptysHoldUptoRow : OpenClaim := { program := "ytflbjhfklhidjaa", sum := "0a72fa13d988e3bd96830b0dbe626660db4fa911be9335890126014a6cf0bad0", func := "temple/templelaw9.EmptysHold", spec := "emptysHold", unfollowed := true, recurses := true, plainKeys := false, apart := false, narrowed := true }
def EmptysHoldUptoSaid : Prop := emptysHoldUptoRow.holds Try.pinned (OpenSpec.upto emptysHoldSpec)

/-- 'templelaw9.EmptysNegs', WHERE WHAT IT READS IS OF BULK AT MOST 1048576: true; the input reads as it did. -/
def emptysNegsUptoRow : OpenClaim := { program := "ytflbjhfklhidjaa", sum := "0a72fa13d988e3bd96830b0dbe626660db4fa911be9335890126014a6cf0bad0", func := "temple/templelaw9.EmptysNegs", spec := "emptysNegs", unfollowed := true, recurses := true, plainKeys := false, apart := false, narrowed := true }
def EmptysNegsUptoSaid : Prop := emptysNegsUptoRow.holds Try.pinned (OpenSpec.upto emptysNegsSpec)

/-- 'templelaw9.EmptysRows', WHERE WHAT IT READS IS OF BULK AT MOST 1048576: true; the input reads as it did. -/
def emptysRowsUptoRow : OpenClaim := { program := "ytflbjhfklhidjaa", sum := "0a72fa13d988e3bd96830b0dbe626660db4fa911be9335890126014a6cf0bad0", func := "temple/templelaw9.EmptysRows", spec := "emptysRows", unfollowed := true, recurses := true, plainKeys := false, apart := false, narrowed := true }
def EmptysRowsUptoSaid : Prop := emptysRowsUptoRow.holds Try.pinned (OpenSpec.upto emptysRowsSpec)

/-- 'templelaw9.EmptysMore', WHERE WHAT IT READS IS OF BULK AT MOST 1048576: true; the input reads as it did. -/
def emptysMoreUptoRow : OpenClaim := { program := "ytflbjhfklhidjaa", sum := "0a72fa13d988e3bd96830b0dbe626660db4fa911be9335890126014a6cf0bad0", func := "temple/templelaw9.EmptysMore", spec := "emptysMore", unfollowed := true, recurses := true, plainKeys := false, apart := false, narrowed := true }
def EmptysMoreUptoSaid : Prop := emptysMoreUptoRow.holds Try.pinned (OpenSpec.upto emptysMoreSpec)

end Rows
end Go.Proofs.Ytflbjhfklhidjaa
