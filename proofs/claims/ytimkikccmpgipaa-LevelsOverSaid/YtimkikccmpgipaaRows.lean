/-
  No cell of these rows narrows 'for every input' (looked for: loops, veiled, ifaces, maps, wideKeys, modest, calm, conditions, laid).
  DERIVED. THE GIVEN ROWS OF THIS SEAT. 6 by the template 'for every input the law returns true; each argument reads behind the call as it read before'; 0 by the template 'total and deterministic' (their statements: YtimkikccmpgipaaTotals.lean).
  GIVEN WITH THE SEED: the statements are not yours to turn. If you find one false, say at which input.
  Laid BY PROGRAM, IN A SANDBOX (cutbox-rows.mjs): the forced cells as the released guide's own fill.sh prints them over the translation 690d70154654d07b… (all of the seat's roots in one cut). By AI agents, Wed Nov 11 2026. No macro, syntax, notation, axiom, sorry.
-/
import Derived.Test.YtimkikccmpgipaaChecked
import GoSem.Claim
import GoSem.ClaimJoined
import GoSem.ClaimMapViews
import Derived.JoinedTies
import Derived.KernelRfl
namespace Go.Proofs.Ytimkikccmpgipaa
/- THE CELL 'sum', in the pinned program and in every row, IS THE sha256 OF THE DUMP (.gsa) THAT YtimkikccmpgipaaProg.lean LOADS. Nothing in Lean hashes anything: it is a label: what it is worth is what the hold of that sum in a sandbox is worth. -/
noncomputable def Try.pinned : Pinned := { name := "ytimkikccmpgipaa", sum := "690d70154654d07b4384943ee44a2b883ce03e41f1995f162d1dd2adc15c458e", checked := Try.checked }
namespace Rows
def none {H : Type} : Left H := { results := [], args := [] }

/-- 'templelaw8.Levels': WHATEVER THE INPUT: true; the input reads as it did. -/
def levelsSpec : ChangeSpec := { name := "levels", fn := fun _ => fun
  | [d] => { results := [.lit (.bool true)], args := [d] }
  | _ => none }
def levelsRow : OpenClaim := { program := "ytimkikccmpgipaa", sum := "690d70154654d07b4384943ee44a2b883ce03e41f1995f162d1dd2adc15c458e", func := "temple/templelaw8.Levels", spec := "levels", unfollowed := true, recurses := true, plainKeys := false, apart := false }
def LevelsSaid : Prop := levelsRow.holds Try.pinned (OpenSpec.ofChange levelsSpec)

/-- ITS FALSE NEIGHBOUR: 'it returns false'. Refute it at one input. -/
def levelsWrong : ChangeSpec := { name := "levels", fn := fun _ => fun
  | [d] => { results := [.lit (.bool false)], args := [d] }
  | _ => none }
def LevelsWrongFalsely : Prop := levelsRow.holds Try.pinned (OpenSpec.ofChange levelsWrong)

/-- 'templelaw8.LevelsRules': WHATEVER THE INPUT: true; the input reads as it did. -/
def levelsRulesSpec : ChangeSpec := { name := "levelsRules", fn := fun _ => fun
  | [d] => { results := [.lit (.bool true)], args := [d] }
  | _ => none }
def levelsRulesRow : OpenClaim := { program := "ytimkikccmpgipaa", sum := "690d70154654d07b4384943ee44a2b883ce03e41f1995f162d1dd2adc15c458e", func := "temple/templelaw8.LevelsRules", spec := "levelsRules", unfollowed := true, recurses := true, plainKeys := false, apart := false }
def LevelsRulesSaid : Prop := levelsRulesRow.holds Try.pinned (OpenSpec.ofChange levelsRulesSpec)

/-- ITS FALSE NEIGHBOUR: 'it returns false'. Refute it at one input. -/
def levelsRulesWrong : ChangeSpec := { name := "levelsRules", fn := fun _ => fun
  | [d] => { results := [.lit (.bool false)], args := [d] }
  | _ => none }
def LevelsRulesWrongFalsely : Prop := levelsRulesRow.holds Try.pinned (OpenSpec.ofChange levelsRulesWrong)

/-- 'templelaw8.LevelsRows': WHATEVER THE INPUT: true; the input reads as it did. -/
def levelsRowsSpec : ChangeSpec := { name := "levelsRows", fn := fun _ => fun
  | [d1, d2] => { results := [.lit (.bool true)], args := [d1, d2] }
  | _ => none }
def levelsRowsRow : OpenClaim := { program := "ytimkikccmpgipaa", sum := "690d70154654d07b4384943ee44a2b883ce03e41f1995f162d1dd2adc15c458e", func := "temple/templelaw8.LevelsRows", spec := "levelsRows", unfollowed := true, recurses := true, plainKeys := false, apart := false }
def LevelsRowsSaid : Prop := levelsRowsRow.holds Try.pinned (OpenSpec.ofChange levelsRowsSpec)

/-- ITS FALSE NEIGHBOUR: 'it returns false'. Refute it at one input. -/
def levelsRowsWrong : ChangeSpec := { name := "levelsRows", fn := fun _ => fun
  | [d1, d2] => { results := [.lit (.bool false)], args := [d1, d2] }
  | _ => none }
def LevelsRowsWrongFalsely : Prop := levelsRowsRow.holds Try.pinned (OpenSpec.ofChange levelsRowsWrong)

/-- 'templelaw8.LevelsRings': WHATEVER THE INPUT: true; the input reads as it did. -/
def levelsRingsSpec : ChangeSpec := { name := "levelsRings", fn := fun _ => fun
  | [d1, d2] => { results := [.lit (.bool true)], args := [d1, d2] }
  | _ => none }
def levelsRingsRow : OpenClaim := { program := "ytimkikccmpgipaa", sum := "690d70154654d07b4384943ee44a2b883ce03e41f1995f162d1dd2adc15c458e", func := "temple/templelaw8.LevelsRings", spec := "levelsRings", unfollowed := true, recurses := true, plainKeys := false, apart := false }
def LevelsRingsSaid : Prop := levelsRingsRow.holds Try.pinned (OpenSpec.ofChange levelsRingsSpec)

/-- ITS FALSE NEIGHBOUR: 'it returns false'. Refute it at one input. -/
def levelsRingsWrong : ChangeSpec := { name := "levelsRings", fn := fun _ => fun
  | [d1, d2] => { results := [.lit (.bool false)], args := [d1, d2] }
  | _ => none }
def LevelsRingsWrongFalsely : Prop := levelsRingsRow.holds Try.pinned (OpenSpec.ofChange levelsRingsWrong)

/-- 'templelaw8.LevelsAlone': WHATEVER THE INPUT: true; the input reads as it did. -/
def levelsAloneSpec : ChangeSpec := { name := "levelsAlone", fn := fun _ => fun
  | [d] => { results := [.lit (.bool true)], args := [d] }
  | _ => none }
def levelsAloneRow : OpenClaim := { program := "ytimkikccmpgipaa", sum := "690d70154654d07b4384943ee44a2b883ce03e41f1995f162d1dd2adc15c458e", func := "temple/templelaw8.LevelsAlone", spec := "levelsAlone", unfollowed := true, recurses := true, plainKeys := false, apart := false }
def LevelsAloneSaid : Prop := levelsAloneRow.holds Try.pinned (OpenSpec.ofChange levelsAloneSpec)

/-- ITS FALSE NEIGHBOUR: 'it returns false'. Refute it at one input. -/
def levelsAloneWrong : ChangeSpec := { name := "levelsAlone", fn := fun _ => fun
  | [d] => { results := [.lit (.bool false)], args := [d] }
  | _ => none }
def LevelsAloneWrongFalsely : Prop := levelsAloneRow.holds Try.pinned (OpenSpec.ofChange levelsAloneWrong)

/-- 'templelaw8.LevelsOver': WHATEVER THE INPUT: true; the input reads as it did. -/
def levelsOverSpec : ChangeSpec := { name := "levelsOver", fn := fun _ => fun
  | [d1, d2, d3] => { results := [.lit (.bool true)], args := [d1, d2, d3] }
  | _ => none }
def levelsOverRow : OpenClaim := { program := "ytimkikccmpgipaa", sum := "690d70154654d07b4384943ee44a2b883ce03e41f1995f162d1dd2adc15c458e", func := "temple/templelaw8.LevelsOver", spec := "levelsOver", unfollowed := true, recurses := true, plainKeys := false, apart := false }
def LevelsOverSaid : Prop := levelsOverRow.holds Try.pinned (OpenSpec.ofChange levelsOverSpec)

/-- ITS FALSE NEIGHBOUR: 'it returns false'. Refute it at one input. -/
def levelsOverWrong : ChangeSpec := { name := "levelsOver", fn := fun _ => fun
  | [d1, d2, d3] => { results := [.lit (.bool false)], args := [d1, d2, d3] }
  | _ => none }
def LevelsOverWrongFalsely : Prop := levelsOverRow.holds Try.pinned (OpenSpec.ofChange levelsOverWrong)

/- THE SECOND FORM. 'bulk': how many values and letters a reading holds, each counted each time it is reached (what is shared counts as often as it is met; a slice's spare places count too). A statement '..UptoSaid' is the law's where the arguments, and the package variables that the reading takes, are together of bulk at most 1048576: NARROWER than '..Said'. Prove '..Said' where nothing that the law and all that it calls make is longer than what came in: it says more and counts as full. Else prove '..UptoSaid'. A law counts once. -/
mutual
def uptoBulk {H : Type} : DataW H → Nat
  | .lit (.string bytes) => bytes.length + 1
  | .lit _ => 1
  | .nil => 1
  | .ptr d => uptoBulk d + 1
  | .slice elems spare => uptoBulkAll elems + uptoBulkAll spare + 1
  | .agg parts => uptoBulkAll parts + 1
  | .iface _ d => uptoBulk d + 1
  | .map entries => uptoBulkEntries entries + 1
  | .held _ => 1
def uptoBulkAll {H : Type} : List (DataW H) → Nat
  | [] => 0
  | d :: r => uptoBulk d + uptoBulkAll r
def uptoBulkEntries {H : Type} : List (Lit × DataW H) → Nat
  | [] => 0
  | x :: r => uptoBulkEntry x + uptoBulkEntries r
def uptoBulkEntry {H : Type} : Lit × DataW H → Nat
  | (.string bytes, d) => bytes.length + uptoBulk d + 1
  | (_, d) => uptoBulk d + 1
 end
def uptoSmall : (H : Type) → List (DataW H) → Bool := fun _ ds => decide (uptoBulkAll ds ≤ 1048576)
def OpenSpec.upto (s : _root_.Go.ChangeSpec) : _root_.Go.OpenSpec := { _root_.Go.OpenSpec.ofChange s with cond := some uptoSmall }

/-- 'templelaw8.Levels', WHERE WHAT IT READS IS OF BULK AT MOST 1048576: true; the input reads as it did. -/
def levelsUptoRow : OpenClaim := { program := "ytimkikccmpgipaa", sum := "690d70154654d07b4384943ee44a2b883ce03e41f1995f162d1dd2adc15c458e", func := "temple/templelaw8.Levels", spec := "levels", unfollowed := true, recurses := true, plainKeys := false, apart := false, narrowed := true }
def LevelsUptoSaid : Prop := levelsUptoRow.holds Try.pinned (OpenSpec.upto levelsSpec)

/-- 'templelaw8.LevelsRules', WHERE WHAT IT READS IS OF BULK AT MOST 1048576: true; the input reads as it did. -/
def levelsRulesUptoRow : OpenClaim := { program := "ytimkikccmpgipaa", sum := "690d70154654d07b4384943ee44a2b883ce03e41f1995f162d1dd2adc15c458e", func := "temple/templelaw8.LevelsRules", spec := "levelsRules", unfollowed := true, recurses := true, plainKeys := false, apart := false, narrowed := true }
def LevelsRulesUptoSaid : Prop := levelsRulesUptoRow.holds Try.pinned (OpenSpec.upto levelsRulesSpec)

/-- 'templelaw8.LevelsRows', WHERE WHAT IT READS IS OF BULK AT MOST 1048576: true; the input reads as it did. -/
def levelsRowsUptoRow : OpenClaim := { program := "ytimkikccmpgipaa", sum := "690d70154654d07b4384943ee44a2b883ce03e41f1995f162d1dd2adc15c458e", func := "temple/templelaw8.LevelsRows", spec := "levelsRows", unfollowed := true, recurses := true, plainKeys := false, apart := false, narrowed := true }
def LevelsRowsUptoSaid : Prop := levelsRowsUptoRow.holds Try.pinned (OpenSpec.upto levelsRowsSpec)

/-- 'templelaw8.LevelsRings', WHERE WHAT IT READS IS OF BULK AT MOST 1048576: true; the input reads as it did. -/
def levelsRingsUptoRow : OpenClaim := { program := "ytimkikccmpgipaa", sum := "690d70154654d07b4384943ee44a2b883ce03e41f1995f162d1dd2adc15c458e", func := "temple/templelaw8.LevelsRings", spec := "levelsRings", unfollowed := true, recurses := true, plainKeys := false, apart := false, narrowed := true }
def LevelsRingsUptoSaid : Prop := levelsRingsUptoRow.holds Try.pinned (OpenSpec.upto levelsRingsSpec)

/-- 'templelaw8.LevelsAlone', WHERE WHAT IT READS IS OF BULK AT MOST 1048576: true; the input reads as it did. -/
def levelsAloneUptoRow : OpenClaim := { program := "ytimkikccmpgipaa", sum := "690d70154654d07b4384943ee44a2b883ce03e41f1995f162d1dd2adc15c458e", func := "temple/templelaw8.LevelsAlone", spec := "levelsAlone", unfollowed := true, recurses := true, plainKeys := false, apart := false, narrowed := true }
def LevelsAloneUptoSaid : Prop := levelsAloneUptoRow.holds Try.pinned (OpenSpec.upto levelsAloneSpec)

/-- 'templelaw8.LevelsOver', WHERE WHAT IT READS IS OF BULK AT MOST 1048576: true; the input reads as it did. -/
def levelsOverUptoRow : OpenClaim := { program := "ytimkikccmpgipaa", sum := "690d70154654d07b4384943ee44a2b883ce03e41f1995f162d1dd2adc15c458e", func := "temple/templelaw8.LevelsOver", spec := "levelsOver", unfollowed := true, recurses := true, plainKeys := false, apart := false, narrowed := true }
def LevelsOverUptoSaid : Prop := levelsOverUptoRow.holds Try.pinned (OpenSpec.upto levelsOverSpec)

end Rows
end Go.Proofs.Ytimkikccmpgipaa
