/-
  No cell of these rows narrows 'for every input' (looked for: loops, veiled, ifaces, maps, wideKeys, modest, calm, conditions, laid).
  DERIVED. THE GIVEN ROWS OF THIS SEAT. 7 by the template 'for every input the law returns true; each argument reads behind the call as it read before'; 0 by the template 'total and deterministic' (their statements: YtbdlnjbioepmhaaTotals.lean).
  GIVEN WITH THE SEED: the statements are not yours to turn. If you find one false, say at which input.
  Laid BY PROGRAM, IN A SANDBOX (cutbox-rows.mjs): the forced cells as the released guide's own fill.sh prints them over the translation ffc3cbeb40705feb… (all of the seat's roots in one cut). By AI agents, Wed Nov 11 2026. No macro, syntax, notation, axiom, sorry.
-/
import Derived.Test.YtbdlnjbioepmhaaChecked
import GoSem.Claim
import GoSem.ClaimJoined
import GoSem.ClaimMapViews
import Derived.JoinedTies
import Derived.KernelRfl
namespace Go.Proofs.Ytbdlnjbioepmhaa
/- THE CELL 'sum', in the pinned program and in every row, IS THE sha256 OF THE DUMP (.gsa) THAT YtbdlnjbioepmhaaProg.lean LOADS. Nothing in Lean hashes anything: it is a label: what it is worth is what the hold of that sum in a sandbox is worth. -/
noncomputable def Try.pinned : Pinned := { name := "ytbdlnjbioepmhaa", sum := "ffc3cbeb40705feb5ff130aae88af4310c6ae9b3e67d4678527cfe9d66b096ba", checked := Try.checked }
namespace Rows
def none {H : Type} : Left H := { results := [], args := [] }

/-- 'templelaw23.Weighs': WHATEVER THE INPUT: true; the input reads as it did. -/
def weighsSpec : ChangeSpec := { name := "weighs", fn := fun _ => fun
  | [d1, d2, d3, d4, d5, d6] => { results := [.lit (.bool true)], args := [d1, d2, d3, d4, d5, d6] }
  | _ => none }
def weighsRow : OpenClaim := { program := "ytbdlnjbioepmhaa", sum := "ffc3cbeb40705feb5ff130aae88af4310c6ae9b3e67d4678527cfe9d66b096ba", func := "temple/templelaw23.Weighs", spec := "weighs", apart := false }
def WeighsSaid : Prop := weighsRow.holds Try.pinned (OpenSpec.ofChange weighsSpec)

/-- ITS FALSE NEIGHBOUR: 'it returns false'. Refute it at one input. -/
def weighsWrong : ChangeSpec := { name := "weighs", fn := fun _ => fun
  | [d1, d2, d3, d4, d5, d6] => { results := [.lit (.bool false)], args := [d1, d2, d3, d4, d5, d6] }
  | _ => none }
def WeighsWrongFalsely : Prop := weighsRow.holds Try.pinned (OpenSpec.ofChange weighsWrong)

/-- 'templelaw23.WeighRules': WHATEVER THE INPUT: true; the input reads as it did. -/
def weighRulesSpec : ChangeSpec := { name := "weighRules", fn := fun _ => fun
  | [d1, d2, d3, d4, d5] => { results := [.lit (.bool true)], args := [d1, d2, d3, d4, d5] }
  | _ => none }
def weighRulesRow : OpenClaim := { program := "ytbdlnjbioepmhaa", sum := "ffc3cbeb40705feb5ff130aae88af4310c6ae9b3e67d4678527cfe9d66b096ba", func := "temple/templelaw23.WeighRules", spec := "weighRules", apart := false }
def WeighRulesSaid : Prop := weighRulesRow.holds Try.pinned (OpenSpec.ofChange weighRulesSpec)

/-- ITS FALSE NEIGHBOUR: 'it returns false'. Refute it at one input. -/
def weighRulesWrong : ChangeSpec := { name := "weighRules", fn := fun _ => fun
  | [d1, d2, d3, d4, d5] => { results := [.lit (.bool false)], args := [d1, d2, d3, d4, d5] }
  | _ => none }
def WeighRulesWrongFalsely : Prop := weighRulesRow.holds Try.pinned (OpenSpec.ofChange weighRulesWrong)

/-- 'templelaw23.WeighTrees': WHATEVER THE INPUT: true; the input reads as it did. -/
def weighTreesSpec : ChangeSpec := { name := "weighTrees", fn := fun _ => fun
  | [d1, d2, d3] => { results := [.lit (.bool true)], args := [d1, d2, d3] }
  | _ => none }
def weighTreesRow : OpenClaim := { program := "ytbdlnjbioepmhaa", sum := "ffc3cbeb40705feb5ff130aae88af4310c6ae9b3e67d4678527cfe9d66b096ba", func := "temple/templelaw23.WeighTrees", spec := "weighTrees", apart := false }
def WeighTreesSaid : Prop := weighTreesRow.holds Try.pinned (OpenSpec.ofChange weighTreesSpec)

/-- ITS FALSE NEIGHBOUR: 'it returns false'. Refute it at one input. -/
def weighTreesWrong : ChangeSpec := { name := "weighTrees", fn := fun _ => fun
  | [d1, d2, d3] => { results := [.lit (.bool false)], args := [d1, d2, d3] }
  | _ => none }
def WeighTreesWrongFalsely : Prop := weighTreesRow.holds Try.pinned (OpenSpec.ofChange weighTreesWrong)

/-- 'templelaw23.WeighForms': WHATEVER THE INPUT: true; the input reads as it did. -/
def weighFormsSpec : ChangeSpec := { name := "weighForms", fn := fun _ => fun
  | [d1, d2] => { results := [.lit (.bool true)], args := [d1, d2] }
  | _ => none }
def weighFormsRow : OpenClaim := { program := "ytbdlnjbioepmhaa", sum := "ffc3cbeb40705feb5ff130aae88af4310c6ae9b3e67d4678527cfe9d66b096ba", func := "temple/templelaw23.WeighForms", spec := "weighForms", apart := false }
def WeighFormsSaid : Prop := weighFormsRow.holds Try.pinned (OpenSpec.ofChange weighFormsSpec)

/-- ITS FALSE NEIGHBOUR: 'it returns false'. Refute it at one input. -/
def weighFormsWrong : ChangeSpec := { name := "weighForms", fn := fun _ => fun
  | [d1, d2] => { results := [.lit (.bool false)], args := [d1, d2] }
  | _ => none }
def WeighFormsWrongFalsely : Prop := weighFormsRow.holds Try.pinned (OpenSpec.ofChange weighFormsWrong)

/-- 'templelaw23.WeighGreat': WHATEVER THE INPUT: true; the input reads as it did. -/
def weighGreatSpec : ChangeSpec := { name := "weighGreat", fn := fun _ => fun
  | [d1, d2, d3] => { results := [.lit (.bool true)], args := [d1, d2, d3] }
  | _ => none }
def weighGreatRow : OpenClaim := { program := "ytbdlnjbioepmhaa", sum := "ffc3cbeb40705feb5ff130aae88af4310c6ae9b3e67d4678527cfe9d66b096ba", func := "temple/templelaw23.WeighGreat", spec := "weighGreat", apart := false }
def WeighGreatSaid : Prop := weighGreatRow.holds Try.pinned (OpenSpec.ofChange weighGreatSpec)

/-- ITS FALSE NEIGHBOUR: 'it returns false'. Refute it at one input. -/
def weighGreatWrong : ChangeSpec := { name := "weighGreat", fn := fun _ => fun
  | [d1, d2, d3] => { results := [.lit (.bool false)], args := [d1, d2, d3] }
  | _ => none }
def WeighGreatWrongFalsely : Prop := weighGreatRow.holds Try.pinned (OpenSpec.ofChange weighGreatWrong)

/-- 'templelaw23.WeighTurns': WHATEVER THE INPUT: true; the input reads as it did. -/
def weighTurnsSpec : ChangeSpec := { name := "weighTurns", fn := fun _ => fun
  | [d1, d2] => { results := [.lit (.bool true)], args := [d1, d2] }
  | _ => none }
def weighTurnsRow : OpenClaim := { program := "ytbdlnjbioepmhaa", sum := "ffc3cbeb40705feb5ff130aae88af4310c6ae9b3e67d4678527cfe9d66b096ba", func := "temple/templelaw23.WeighTurns", spec := "weighTurns", apart := false }
def WeighTurnsSaid : Prop := weighTurnsRow.holds Try.pinned (OpenSpec.ofChange weighTurnsSpec)

/-- ITS FALSE NEIGHBOUR: 'it returns false'. Refute it at one input. -/
def weighTurnsWrong : ChangeSpec := { name := "weighTurns", fn := fun _ => fun
  | [d1, d2] => { results := [.lit (.bool false)], args := [d1, d2] }
  | _ => none }
def WeighTurnsWrongFalsely : Prop := weighTurnsRow.holds Try.pinned (OpenSpec.ofChange weighTurnsWrong)

/-- 'templelaw23.WeighTurned': WHATEVER THE INPUT: true; the input reads as it did. -/
def weighTurnedSpec : ChangeSpec := { name := "weighTurned", fn := fun _ => fun
  | [d1, d2, d3] => { results := [.lit (.bool true)], args := [d1, d2, d3] }
  | _ => none }
def weighTurnedRow : OpenClaim := { program := "ytbdlnjbioepmhaa", sum := "ffc3cbeb40705feb5ff130aae88af4310c6ae9b3e67d4678527cfe9d66b096ba", func := "temple/templelaw23.WeighTurned", spec := "weighTurned", apart := false }
def WeighTurnedSaid : Prop := weighTurnedRow.holds Try.pinned (OpenSpec.ofChange weighTurnedSpec)

/-- ITS FALSE NEIGHBOUR: 'it returns false'. Refute it at one input. -/
def weighTurnedWrong : ChangeSpec := { name := "weighTurned", fn := fun _ => fun
  | [d1, d2, d3] => { results := [.lit (.bool false)], args := [d1, d2, d3] }
  | _ => none }
def WeighTurnedWrongFalsely : Prop := weighTurnedRow.holds Try.pinned (OpenSpec.ofChange weighTurnedWrong)

/- THE SECOND FORM. 'bulk': how many values and letters a reading holds, each counted each time it is reached (what is shared counts as often as it is met; a slice's spare places count too). A statement '..UptoSaid' is the law's where the arguments, and the package variables that the reading takes, are together of bulk at most 1048576: NARROWER than '..Said'. Prove '..Said' where nothing that the law and all that it calls make is longer than what came in: it says more and counts as full. Else prove '..UptoSaid'. A law counts once. -/
mutual
def uptoBulk {H : Type} : DataW H → Nat
  | .lit (.string bytes) => bytes.length + 1
  | .lit _ => 1
  | .nil => 1
  | .ptr d => uptoBulk d + 1
  | .slice elems spare => uptoBulkAll elems + uptoBulkAll spare + 1
  | .agg parts => uptoBulkAll parts + 1
  | .iface _ d => uptoBulk d + 1
  | .map entries => uptoBulkEntries entries + 1
  | .held _ => 1
def uptoBulkAll {H : Type} : List (DataW H) → Nat
  | [] => 0
  | d :: r => uptoBulk d + uptoBulkAll r
def uptoBulkEntries {H : Type} : List (Lit × DataW H) → Nat
  | [] => 0
  | x :: r => uptoBulkEntry x + uptoBulkEntries r
def uptoBulkEntry {H : Type} : Lit × DataW H → Nat
  | (.string bytes, d) => bytes.length + uptoBulk d + 1
  | (_, d) => uptoBulk d + 1
 end
def uptoSmall : (H : Type) → List (DataW H) → Bool := fun _ ds => decide (uptoBulkAll ds ≤ 1048576)
def OpenSpec.upto (s : _root_.Go.ChangeSpec) : _root_.Go.OpenSpec := { _root_.Go.OpenSpec.ofChange s with cond := some uptoSmall }

/-- 'templelaw23.Weighs', WHERE WHAT IT READS IS OF BULK AT MOST 1048576: true; the input reads as it did. -/
def weighsUptoRow : OpenClaim := { program := "ytbdlnjbioepmhaa", sum := "ffc3cbeb40705feb5ff130aae88af4310c6ae9b3e67d4678527cfe9d66b096ba", func := "temple/templelaw23.Weighs", spec := "weighs", apart := false, narrowed := true }
def WeighsUptoSaid : Prop := weighsUptoRow.holds Try.pinned (OpenSpec.upto weighsSpec)

/-- 'templelaw23.WeighRules', WHERE WHAT IT READS IS OF BULK AT MOST 1048576: true; the input reads as it did. -/
def weighRulesUptoRow : OpenClaim := { program := "ytbdlnjbioepmhaa", sum := "ffc3cbeb40705feb5ff130aae88af4310c6ae9b3e67d4678527cfe9d66b096ba", func := "temple/templelaw23.WeighRules", spec := "weighRules", apart := false, narrowed := true }
def WeighRulesUptoSaid : Prop := weighRulesUptoRow.holds Try.pinned (OpenSpec.upto weighRulesSpec)

/-- 'templelaw23.WeighTrees', WHERE WHAT IT READS IS OF BULK AT MOST 1048576: true; the input reads as it did. -/
def weighTreesUptoRow : OpenClaim := { program := "ytbdlnjbioepmhaa", sum := "ffc3cbeb40705feb5ff130aae88af4310c6ae9b3e67d4678527cfe9d66b096ba", func := "temple/templelaw23.WeighTrees", spec := "weighTrees", apart := false, narrowed := true }
def WeighTreesUptoSaid : Prop := weighTreesUptoRow.holds Try.pinned (OpenSpec.upto weighTreesSpec)

/-- 'templelaw23.WeighForms', WHERE WHAT IT READS IS OF BULK AT MOST 1048576: true; the input reads as it did. -/
def weighFormsUptoRow : OpenClaim := { program := "ytbdlnjbioepmhaa", sum := "ffc3cbeb40705feb5ff130aae88af4310c6ae9b3e67d4678527cfe9d66b096ba", func := "temple/templelaw23.WeighForms", spec := "weighForms", apart := false, narrowed := true }
def WeighFormsUptoSaid : Prop := weighFormsUptoRow.holds Try.pinned (OpenSpec.upto weighFormsSpec)

/-- 'templelaw23.WeighGreat', WHERE WHAT IT READS IS OF BULK AT MOST 1048576: true; the input reads as it did. -/
def weighGreatUptoRow : OpenClaim := { program := "ytbdlnjbioepmhaa", sum := "ffc3cbeb40705feb5ff130aae88af4310c6ae9b3e67d4678527cfe9d66b096ba", func := "temple/templelaw23.WeighGreat", spec := "weighGreat", apart := false, narrowed := true }
def WeighGreatUptoSaid : Prop := weighGreatUptoRow.holds Try.pinned (OpenSpec.upto weighGreatSpec)

/-- 'templelaw23.WeighTurns', WHERE WHAT IT READS IS OF BULK AT MOST 1048576: true; the input reads as it did. -/
def weighTurnsUptoRow : OpenClaim := { program := "ytbdlnjbioepmhaa", sum := "ffc3cbeb40705feb5ff130aae88af4310c6ae9b3e67d4678527cfe9d66b096ba", func := "temple/templelaw23.WeighTurns", spec := "weighTurns", apart := false, narrowed := true }
def WeighTurnsUptoSaid : Prop := weighTurnsUptoRow.holds Try.pinned (OpenSpec.upto weighTurnsSpec)

/-- 'templelaw23.WeighTurned', WHERE WHAT IT READS IS OF BULK AT MOST 1048576: true; the input reads as it did. -/
def weighTurnedUptoRow : OpenClaim := { program := "ytbdlnjbioepmhaa", sum := "ffc3cbeb40705feb5ff130aae88af4310c6ae9b3e67d4678527cfe9d66b096ba", func := "temple/templelaw23.WeighTurned", spec := "weighTurned", apart := false, narrowed := true }
def WeighTurnedUptoSaid : Prop := weighTurnedUptoRow.holds Try.pinned (OpenSpec.upto weighTurnedSpec)

end Rows
end Go.Proofs.Ytbdlnjbioepmhaa
