/-
  No cell of these rows narrows 'for every input' (looked for: loops, veiled, ifaces, maps, wideKeys, modest, calm, conditions, laid).
  DERIVED. THE GIVEN ROWS OF THIS SEAT. 5 by the template 'for every input the law returns true; each argument reads behind the call as it read before'; 0 by the template 'total and deterministic' (their statements: YtnkpelhaablheaaTotals.lean).
  GIVEN WITH THE SEED: the statements are not yours to turn. If you find one false, say at which input.
  Laid BY PROGRAM, IN A SANDBOX (cutbox-rows.mjs): the forced cells as the released guide's own fill.sh prints them over the translation fbc6e5e2957f30c6… (all of the seat's roots in one cut). By AI agents, Wed Nov 11 2026. No macro, syntax, notation, axiom, sorry.
-/
import Derived.Test.YtnkpelhaablheaaChecked
import GoSem.Claim
import GoSem.ClaimJoined
import GoSem.ClaimMapViews
import Derived.JoinedTies
import Derived.KernelRfl
namespace Go.Proofs.Ytnkpelhaablheaa
/- THE CELL 'sum', in the pinned program and in every row, IS THE sha256 OF THE DUMP (.gsa) THAT YtnkpelhaablheaaProg.lean LOADS. Nothing in Lean hashes anything: it is a label: what it is worth is what the hold of that sum in a sandbox is worth. -/
noncomputable def Try.pinned : Pinned := { name := "ytnkpelhaablheaa", sum := "fbc6e5e2957f30c6fea04d45af2e8ace4fc7a455297e3c40390144ac0c32f5d1", checked := Try.checked }
namespace Rows
def none {H : Type} : Left H := { results := [], args := [] }

/-- 'templelaw6.Depends': WHATEVER THE INPUT: true; the input reads as it did. -/
def dependsSpec : ChangeSpec := { name := "depends", fn := fun _ => fun
  | [d] => { results := [.lit (.bool true)], args := [d] }
  | _ => none }
def dependsRow : OpenClaim := { program := "ytnkpelhaablheaa", sum := "fbc6e5e2957f30c6fea04d45af2e8ace4fc7a455297e3c40390144ac0c32f5d1", func := "temple/templelaw6.Depends", spec := "depends", unfollowed := true, recurses := true, plainKeys := false, apart := false }
def DependsSaid : Prop := dependsRow.holds Try.pinned (OpenSpec.ofChange dependsSpec)

/-- ITS FALSE NEIGHBOUR: 'it returns false'. Refute it at one input. -/
def dependsWrong : ChangeSpec := { name := "depends", fn := fun _ => fun
  | [d] => { results := [.lit (.bool false)], args := [d] }
  | _ => none }
def DependsWrongFalsely : Prop := dependsRow.holds Try.pinned (OpenSpec.ofChange dependsWrong)

/-- 'templelaw6.DependsRules': WHATEVER THE INPUT: true; the input reads as it did. -/
def dependsRulesSpec : ChangeSpec := { name := "dependsRules", fn := fun _ => fun
  | [d] => { results := [.lit (.bool true)], args := [d] }
  | _ => none }
def dependsRulesRow : OpenClaim := { program := "ytnkpelhaablheaa", sum := "fbc6e5e2957f30c6fea04d45af2e8ace4fc7a455297e3c40390144ac0c32f5d1", func := "temple/templelaw6.DependsRules", spec := "dependsRules", unfollowed := true, recurses := true, plainKeys := false, apart := false }
def DependsRulesSaid : Prop := dependsRulesRow.holds Try.pinned (OpenSpec.ofChange dependsRulesSpec)

/-- ITS FALSE NEIGHBOUR: 'it returns false'. Refute it at one input. -/
def dependsRulesWrong : ChangeSpec := { name := "dependsRules", fn := fun _ => fun
  | [d] => { results := [.lit (.bool false)], args := [d] }
  | _ => none }
def DependsRulesWrongFalsely : Prop := dependsRulesRow.holds Try.pinned (OpenSpec.ofChange dependsRulesWrong)

/-- 'templelaw6.DependsMore': WHATEVER THE INPUT: true; the input reads as it did. -/
def dependsMoreSpec : ChangeSpec := { name := "dependsMore", fn := fun _ => fun
  | [d1, d2, d3, d4] => { results := [.lit (.bool true)], args := [d1, d2, d3, d4] }
  | _ => none }
def dependsMoreRow : OpenClaim := { program := "ytnkpelhaablheaa", sum := "fbc6e5e2957f30c6fea04d45af2e8ace4fc7a455297e3c40390144ac0c32f5d1", func := "temple/templelaw6.DependsMore", spec := "dependsMore", unfollowed := true, recurses := true, plainKeys := false, apart := false }
def DependsMoreSaid : Prop := dependsMoreRow.holds Try.pinned (OpenSpec.ofChange dependsMoreSpec)

/-- ITS FALSE NEIGHBOUR: 'it returns false'. Refute it at one input. -/
def dependsMoreWrong : ChangeSpec := { name := "dependsMore", fn := fun _ => fun
  | [d1, d2, d3, d4] => { results := [.lit (.bool false)], args := [d1, d2, d3, d4] }
  | _ => none }
def DependsMoreWrongFalsely : Prop := dependsMoreRow.holds Try.pinned (OpenSpec.ofChange dependsMoreWrong)

/-- 'templelaw6.DependsRows': WHATEVER THE INPUT: true; the input reads as it did. -/
def dependsRowsSpec : ChangeSpec := { name := "dependsRows", fn := fun _ => fun
  | [d1, d2] => { results := [.lit (.bool true)], args := [d1, d2] }
  | _ => none }
def dependsRowsRow : OpenClaim := { program := "ytnkpelhaablheaa", sum := "fbc6e5e2957f30c6fea04d45af2e8ace4fc7a455297e3c40390144ac0c32f5d1", func := "temple/templelaw6.DependsRows", spec := "dependsRows", unfollowed := true, recurses := true, plainKeys := false, apart := false }
def DependsRowsSaid : Prop := dependsRowsRow.holds Try.pinned (OpenSpec.ofChange dependsRowsSpec)

/-- ITS FALSE NEIGHBOUR: 'it returns false'. Refute it at one input. -/
def dependsRowsWrong : ChangeSpec := { name := "dependsRows", fn := fun _ => fun
  | [d1, d2] => { results := [.lit (.bool false)], args := [d1, d2] }
  | _ => none }
def DependsRowsWrongFalsely : Prop := dependsRowsRow.holds Try.pinned (OpenSpec.ofChange dependsRowsWrong)

/-- 'templelaw6.DependsBoth': WHATEVER THE INPUT: true; the input reads as it did. -/
def dependsBothSpec : ChangeSpec := { name := "dependsBoth", fn := fun _ => fun
  | [d1, d2] => { results := [.lit (.bool true)], args := [d1, d2] }
  | _ => none }
def dependsBothRow : OpenClaim := { program := "ytnkpelhaablheaa", sum := "fbc6e5e2957f30c6fea04d45af2e8ace4fc7a455297e3c40390144ac0c32f5d1", func := "temple/templelaw6.DependsBoth", spec := "dependsBoth", unfollowed := true, recurses := true, plainKeys := false, apart := false }
def DependsBothSaid : Prop := dependsBothRow.holds Try.pinned (OpenSpec.ofChange dependsBothSpec)

/-- ITS FALSE NEIGHBOUR: 'it returns false'. Refute it at one input. -/
def dependsBothWrong : ChangeSpec := { name := "dependsBoth", fn := fun _ => fun
  | [d1, d2] => { results := [.lit (.bool false)], args := [d1, d2] }
  | _ => none }
def DependsBothWrongFalsely : Prop := dependsBothRow.holds Try.pinned (OpenSpec.ofChange dependsBothWrong)

/- THE SECOND FORM. 'bulk': how many values and letters a reading holds, each counted each time it is reached (what is shared counts as often as it is met; a slice's spare places count too). A statement '..UptoSaid' is the law's where the arguments, and the package variables that the reading takes, are together of bulk at most 1048576: NARROWER than '..Said'. Prove '..Said' where nothing that the law and all that it calls make is longer than what came in: it says more and counts as full. Else prove '..UptoSaid'. A law counts once. -/
mutual
def uptoBulk {H : Type} : DataW H → Nat
  | .lit (.string bytes) => bytes.length + 1
  | .lit _ => 1
  | .nil => 1
  | .ptr d => uptoBulk d + 1
  | .slice elems spare => uptoBulkAll elems + uptoBulkAll spare + 1
  | .agg parts => uptoBulkAll parts + 1
  | .iface _ d => uptoBulk d + 1
  | .map entries => uptoBulkEntries entries + 1
  | .held _ => 1
def uptoBulkAll {H : Type} : List (DataW H) → Nat
  | [] => 0
  | d :: r => uptoBulk d + uptoBulkAll r
def uptoBulkEntries {H : Type} : List (Lit × DataW H) → Nat
  | [] => 0
  | x :: r => uptoBulkEntry x + uptoBulkEntries r
def uptoBulkEntry {H : Type} : Lit × DataW H → Nat
  | (.string bytes, d) => bytes.length + uptoBulk d + 1
  | (_, d) => uptoBulk d + 1
 end
def uptoSmall : (H : Type) → List (DataW H) → Bool := fun _ ds => decide (uptoBulkAll ds ≤ 1048576)
def OpenSpec.upto (s : _root_.Go.ChangeSpec) : _root_.Go.OpenSpec := { _root_.Go.OpenSpec.ofChange s with cond := some uptoSmall }

/-- 'templelaw6.Depends', WHERE WHAT IT READS IS OF BULK AT MOST 1048576: true; the input reads as it did. -/
def dependsUptoRow : OpenClaim := { program := "ytnkpelhaablheaa", sum := "fbc6e5e2957f30c6fea04d45af2e8ace4fc7a455297e3c40390144ac0c32f5d1", func := "temple/templelaw6.Depends", spec := "depends", unfollowed := true, recurses := true, plainKeys := false, apart := false, narrowed := true }
def DependsUptoSaid : Prop := dependsUptoRow.holds Try.pinned (OpenSpec.upto dependsSpec)

/-- 'templelaw6.DependsRules', WHERE WHAT IT READS IS OF BULK AT MOST 1048576: true; the input reads as it did. -/
def dependsRulesUptoRow : OpenClaim := { program := "ytnkpelhaablheaa", sum := "fbc6e5e2957f30c6fea04d45af2e8ace4fc7a455297e3c40390144ac0c32f5d1", func := "temple/templelaw6.DependsRules", spec := "dependsRules", unfollowed := true, recurses := true, plainKeys := false, apart := false, narrowed := true }
def DependsRulesUptoSaid : Prop := dependsRulesUptoRow.holds Try.pinned (OpenSpec.upto dependsRulesSpec)

/-- 'templelaw6.DependsMore', WHERE WHAT IT READS IS OF BULK AT MOST 1048576: true; the input reads as it did. -/
def dependsMoreUptoRow : OpenClaim := { program := "ytnkpelhaablheaa", sum := "fbc6e5e2957f30c6fea04d45af2e8ace4fc7a455297e3c40390144ac0c32f5d1", func := "temple/templelaw6.DependsMore", spec := "dependsMore", unfollowed := true, recurses := true, plainKeys := false, apart := false, narrowed := true }
def DependsMoreUptoSaid : Prop := dependsMoreUptoRow.holds Try.pinned (OpenSpec.upto dependsMoreSpec)

/-- 'templelaw6.DependsRows', WHERE WHAT IT READS IS OF BULK AT MOST 1048576: true; the input reads as it did. -/
def dependsRowsUptoRow : OpenClaim := { program := "ytnkpelhaablheaa", sum := "fbc6e5e2957f30c6fea04d45af2e8ace4fc7a455297e3c40390144ac0c32f5d1", func := "temple/templelaw6.DependsRows", spec := "dependsRows", unfollowed := true, recurses := true, plainKeys := false, apart := false, narrowed := true }
def DependsRowsUptoSaid : Prop := dependsRowsUptoRow.holds Try.pinned (OpenSpec.upto dependsRowsSpec)

/-- 'templelaw6.DependsBoth', WHERE WHAT IT READS IS OF BULK AT MOST 1048576: true; the input reads as it did. -/
def dependsBothUptoRow : OpenClaim := { program := "ytnkpelhaablheaa", sum := "fbc6e5e2957f30c6fea04d45af2e8ace4fc7a455297e3c40390144ac0c32f5d1", func := "temple/templelaw6.DependsBoth", spec := "dependsBoth", unfollowed := true, recurses := true, plainKeys := false, apart := false, narrowed := true }
def DependsBothUptoSaid : Prop := dependsBothUptoRow.holds Try.pinned (OpenSpec.upto dependsBothSpec)

end Rows
end Go.Proofs.Ytnkpelhaablheaa
