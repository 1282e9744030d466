/-
  No cell of these rows narrows 'for every input' (looked for: loops, veiled, ifaces, maps, wideKeys, modest, calm, conditions, laid).
  DERIVED. THE GIVEN ROWS OF THIS SEAT. 6 by the template 'for every input the law returns true; each argument reads behind the call as it read before'; 0 by the template 'total and deterministic' (their statements: YtmjhdhjijbmigaaTotals.lean).
  GIVEN WITH THE SEED: the statements are not yours to turn. If you find one false, say at which input.
  Laid BY PROGRAM, IN A SANDBOX (cutbox-rows.mjs): the forced cells as the released guide's own fill.sh prints them over the translation 1b8d993ad272a8df… (all of the seat's roots in one cut). By AI agents, Wed Nov 11 2026. No macro, syntax, notation, axiom, sorry.
-/
import Derived.Test.YtmjhdhjijbmigaaChecked
import GoSem.Claim
import GoSem.ClaimJoined
import GoSem.ClaimMapViews
import Derived.JoinedTies
import Derived.KernelRfl
namespace Go.Proofs.Ytmjhdhjijbmigaa
/- THE CELL 'sum', in the pinned program and in every row, IS THE sha256 OF THE DUMP (.gsa) THAT YtmjhdhjijbmigaaProg.lean LOADS. Nothing in Lean hashes anything: it is a label: what it is worth is what the hold of that sum in a sandbox is worth. -/
noncomputable def Try.pinned : Pinned := { name := "ytmjhdhjijbmigaa", sum := "1b8d993ad272a8dfac173f224d694da54c5b4d64c3e9e23ec19282c218cdbb10", checked := Try.checked }
namespace Rows
def none {H : Type} : Left H := { results := [], args := [] }

/-- 'templelaw0.TempleNames': WHATEVER THE INPUT: true; the input reads as it did. -/
def templeNamesSpec : ChangeSpec := { name := "templeNames", fn := fun _ => fun
  | [] => { results := [.lit (.bool true)], args := [] }
  | _ => none }
def templeNamesRow : OpenClaim := { program := "ytmjhdhjijbmigaa", sum := "1b8d993ad272a8dfac173f224d694da54c5b4d64c3e9e23ec19282c218cdbb10", func := "temple/templelaw0.TempleNames", spec := "templeNames", apart := false }
def TempleNamesSaid : Prop := templeNamesRow.holds Try.pinned (OpenSpec.ofChange templeNamesSpec)

/-- ITS FALSE NEIGHBOUR: 'it returns false'. Refute it at one input. -/
def templeNamesWrong : ChangeSpec := { name := "templeNames", fn := fun _ => fun
  | [] => { results := [.lit (.bool false)], args := [] }
  | _ => none }
def TempleNamesWrongFalsely : Prop := templeNamesRow.holds Try.pinned (OpenSpec.ofChange templeNamesWrong)

/-- 'templelaw7.Components': WHATEVER THE INPUT: true; the input reads as it did. -/
def componentsSpec : ChangeSpec := { name := "components", fn := fun _ => fun
  | [d1, d2, d3, d4] => { results := [.lit (.bool true)], args := [d1, d2, d3, d4] }
  | _ => none }
def componentsRow : OpenClaim := { program := "ytmjhdhjijbmigaa", sum := "1b8d993ad272a8dfac173f224d694da54c5b4d64c3e9e23ec19282c218cdbb10", func := "temple/templelaw7.Components", spec := "components", apart := false }
def ComponentsSaid : Prop := componentsRow.holds Try.pinned (OpenSpec.ofChange componentsSpec)

/-- ITS FALSE NEIGHBOUR: 'it returns false'. Refute it at one input. -/
def componentsWrong : ChangeSpec := { name := "components", fn := fun _ => fun
  | [d1, d2, d3, d4] => { results := [.lit (.bool false)], args := [d1, d2, d3, d4] }
  | _ => none }
def ComponentsWrongFalsely : Prop := componentsRow.holds Try.pinned (OpenSpec.ofChange componentsWrong)

/-- 'templelaw7.ComponentsRules': WHATEVER THE INPUT: true; the input reads as it did. -/
def componentsRulesSpec : ChangeSpec := { name := "componentsRules", fn := fun _ => fun
  | [d1, d2] => { results := [.lit (.bool true)], args := [d1, d2] }
  | _ => none }
def componentsRulesRow : OpenClaim := { program := "ytmjhdhjijbmigaa", sum := "1b8d993ad272a8dfac173f224d694da54c5b4d64c3e9e23ec19282c218cdbb10", func := "temple/templelaw7.ComponentsRules", spec := "componentsRules", apart := false }
def ComponentsRulesSaid : Prop := componentsRulesRow.holds Try.pinned (OpenSpec.ofChange componentsRulesSpec)

/-- ITS FALSE NEIGHBOUR: 'it returns false'. Refute it at one input. -/
def componentsRulesWrong : ChangeSpec := { name := "componentsRules", fn := fun _ => fun
  | [d1, d2] => { results := [.lit (.bool false)], args := [d1, d2] }
  | _ => none }
def ComponentsRulesWrongFalsely : Prop := componentsRulesRow.holds Try.pinned (OpenSpec.ofChange componentsRulesWrong)

/-- 'templelaw7.ComponentsRings': WHATEVER THE INPUT: true; the input reads as it did. -/
def componentsRingsSpec : ChangeSpec := { name := "componentsRings", fn := fun _ => fun
  | [d1, d2, d3] => { results := [.lit (.bool true)], args := [d1, d2, d3] }
  | _ => none }
def componentsRingsRow : OpenClaim := { program := "ytmjhdhjijbmigaa", sum := "1b8d993ad272a8dfac173f224d694da54c5b4d64c3e9e23ec19282c218cdbb10", func := "temple/templelaw7.ComponentsRings", spec := "componentsRings", apart := false }
def ComponentsRingsSaid : Prop := componentsRingsRow.holds Try.pinned (OpenSpec.ofChange componentsRingsSpec)

/-- ITS FALSE NEIGHBOUR: 'it returns false'. Refute it at one input. -/
def componentsRingsWrong : ChangeSpec := { name := "componentsRings", fn := fun _ => fun
  | [d1, d2, d3] => { results := [.lit (.bool false)], args := [d1, d2, d3] }
  | _ => none }
def ComponentsRingsWrongFalsely : Prop := componentsRingsRow.holds Try.pinned (OpenSpec.ofChange componentsRingsWrong)

/-- 'templelaw7.ComponentsForms': WHATEVER THE INPUT: true; the input reads as it did. -/
def componentsFormsSpec : ChangeSpec := { name := "componentsForms", fn := fun _ => fun
  | [d1, d2, d3] => { results := [.lit (.bool true)], args := [d1, d2, d3] }
  | _ => none }
def componentsFormsRow : OpenClaim := { program := "ytmjhdhjijbmigaa", sum := "1b8d993ad272a8dfac173f224d694da54c5b4d64c3e9e23ec19282c218cdbb10", func := "temple/templelaw7.ComponentsForms", spec := "componentsForms", apart := false }
def ComponentsFormsSaid : Prop := componentsFormsRow.holds Try.pinned (OpenSpec.ofChange componentsFormsSpec)

/-- ITS FALSE NEIGHBOUR: 'it returns false'. Refute it at one input. -/
def componentsFormsWrong : ChangeSpec := { name := "componentsForms", fn := fun _ => fun
  | [d1, d2, d3] => { results := [.lit (.bool false)], args := [d1, d2, d3] }
  | _ => none }
def ComponentsFormsWrongFalsely : Prop := componentsFormsRow.holds Try.pinned (OpenSpec.ofChange componentsFormsWrong)

/-- 'templelaw7.ComponentsMore': WHATEVER THE INPUT: true; the input reads as it did. -/
def componentsMoreSpec : ChangeSpec := { name := "componentsMore", fn := fun _ => fun
  | [d1, d2, d3] => { results := [.lit (.bool true)], args := [d1, d2, d3] }
  | _ => none }
def componentsMoreRow : OpenClaim := { program := "ytmjhdhjijbmigaa", sum := "1b8d993ad272a8dfac173f224d694da54c5b4d64c3e9e23ec19282c218cdbb10", func := "temple/templelaw7.ComponentsMore", spec := "componentsMore", apart := false }
def ComponentsMoreSaid : Prop := componentsMoreRow.holds Try.pinned (OpenSpec.ofChange componentsMoreSpec)

/-- ITS FALSE NEIGHBOUR: 'it returns false'. Refute it at one input. -/
def componentsMoreWrong : ChangeSpec := { name := "componentsMore", fn := fun _ => fun
  | [d1, d2, d3] => { results := [.lit (.bool false)], args := [d1, d2, d3] }
  | _ => none }
def ComponentsMoreWrongFalsely : Prop := componentsMoreRow.holds Try.pinned (OpenSpec.ofChange componentsMoreWrong)

/- THE SECOND FORM. 'bulk': how many values and letters a reading holds, each counted each time it is reached (what is shared counts as often as it is met; a slice's spare places count too). A statement '..UptoSaid' is the law's where the arguments, and the package variables that the reading takes, are together of bulk at most 1048576: NARROWER than '..Said'. Prove '..Said' where nothing that the law and all that it calls make is longer than what came in: it says more and counts as full. Else prove '..UptoSaid'. A law counts once. -/
mutual
def uptoBulk {H : Type} : DataW H → Nat
  | .lit (.string bytes) => bytes.length + 1
  | .lit _ => 1
  | .nil => 1
  | .ptr d => uptoBulk d + 1
  | .slice elems spare => uptoBulkAll elems + uptoBulkAll spare + 1
  | .agg parts => uptoBulkAll parts + 1
  | .iface _ d => uptoBulk d + 1
  | .map entries => uptoBulkEntries entries + 1
  | .held _ => 1
def uptoBulkAll {H : Type} : List (DataW H) → Nat
  | [] => 0
  | d :: r => uptoBulk d + uptoBulkAll r
def uptoBulkEntries {H : Type} : List (Lit × DataW H) → Nat
  | [] => 0
  | x :: r => uptoBulkEntry x + uptoBulkEntries r
def uptoBulkEntry {H : Type} : Lit × DataW H → Nat
  | (.string bytes, d) => bytes.length + uptoBulk d + 1
  | (_, d) => uptoBulk d + 1
 end
def uptoSmall : (H : Type) → List (DataW H) → Bool := fun _ ds => decide (uptoBulkAll ds ≤ 1048576)
def OpenSpec.upto (s : _root_.Go.ChangeSpec) : _root_.Go.OpenSpec := { _root_.Go.OpenSpec.ofChange s with cond := some uptoSmall }

/-- 'templelaw0.TempleNames', WHERE WHAT IT READS IS OF BULK AT MOST 1048576: true; the input reads as it did. -/
def templeNamesUptoRow : OpenClaim := { program := "ytmjhdhjijbmigaa", sum := "1b8d993ad272a8dfac173f224d694da54c5b4d64c3e9e23ec19282c218cdbb10", func := "temple/templelaw0.TempleNames", spec := "templeNames", apart := false, narrowed := true }
def TempleNamesUptoSaid : Prop := templeNamesUptoRow.holds Try.pinned (OpenSpec.upto templeNamesSpec)

/-- 'templelaw7.Components', WHERE WHAT IT READS IS OF BULK AT MOST 1048576: true; the input reads as it did. -/
def componentsUptoRow : OpenClaim := { program := "ytmjhdhjijbmigaa", sum := "1b8d993ad272a8dfac173f224d694da54c5b4d64c3e9e23ec19282c218cdbb10", func := "temple/templelaw7.Components", spec := "components", apart := false, narrowed := true }
def ComponentsUptoSaid : Prop := componentsUptoRow.holds Try.pinned (OpenSpec.upto componentsSpec)

/-- 'templelaw7.ComponentsRules', WHERE WHAT IT READS IS OF BULK AT MOST 1048576: true; the input reads as it did. -/
def componentsRulesUptoRow : OpenClaim := { program := "ytmjhdhjijbmigaa", sum := "1b8d993ad272a8dfac173f224d694da54c5b4d64c3e9e23ec19282c218cdbb10", func := "temple/templelaw7.ComponentsRules", spec := "componentsRules", apart := false, narrowed := true }
def ComponentsRulesUptoSaid : Prop := componentsRulesUptoRow.holds Try.pinned (OpenSpec.upto componentsRulesSpec)

/-- 'templelaw7.ComponentsRings', WHERE WHAT IT READS IS OF BULK AT MOST 1048576: true; the input reads as it did. -/
def componentsRingsUptoRow : OpenClaim := { program := "ytmjhdhjijbmigaa", sum := "1b8d993ad272a8dfac173f224d694da54c5b4d64c3e9e23ec19282c218cdbb10", func := "temple/templelaw7.ComponentsRings", spec := "componentsRings", apart := false, narrowed := true }
def ComponentsRingsUptoSaid : Prop := componentsRingsUptoRow.holds Try.pinned (OpenSpec.upto componentsRingsSpec)

/-- 'templelaw7.ComponentsForms', WHERE WHAT IT READS IS OF BULK AT MOST 1048576: true; the input reads as it did. -/
def componentsFormsUptoRow : OpenClaim := { program := "ytmjhdhjijbmigaa", sum := "1b8d993ad272a8dfac173f224d694da54c5b4d64c3e9e23ec19282c218cdbb10", func := "temple/templelaw7.ComponentsForms", spec := "componentsForms", apart := false, narrowed := true }
def ComponentsFormsUptoSaid : Prop := componentsFormsUptoRow.holds Try.pinned (OpenSpec.upto componentsFormsSpec)

/-- 'templelaw7.ComponentsMore', WHERE WHAT IT READS IS OF BULK AT MOST 1048576: true; the input reads as it did. -/
def componentsMoreUptoRow : OpenClaim := { program := "ytmjhdhjijbmigaa", sum := "1b8d993ad272a8dfac173f224d694da54c5b4d64c3e9e23ec19282c218cdbb10", func := "temple/templelaw7.ComponentsMore", spec := "componentsMore", apart := false, narrowed := true }
def ComponentsMoreUptoSaid : Prop := componentsMoreUptoRow.holds Try.pinned (OpenSpec.upto componentsMoreSpec)

end Rows
end Go.Proofs.Ytmjhdhjijbmigaa
