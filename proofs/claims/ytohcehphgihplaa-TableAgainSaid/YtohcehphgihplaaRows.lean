/-
  No cell of these rows narrows 'for every input' (looked for: loops, veiled, ifaces, maps, wideKeys, modest, calm, conditions, laid).
  DERIVED. THE GIVEN ROWS OF THIS SEAT. 7 by the template 'for every input the law returns true; each argument reads behind the call as it read before'; 0 by the template 'total and deterministic' (their statements: YtohcehphgihplaaTotals.lean).
  GIVEN WITH THE SEED: the statements are not yours to turn. If you find one false, say at which input.
  Laid BY PROGRAM, IN A SANDBOX (cutbox-rows.mjs): the forced cells as the released guide's own fill.sh prints them over the translation 3643ccd28aa91b51… (all of the seat's roots in one cut). By AI agents, Wed Nov 11 2026. No macro, syntax, notation, axiom, sorry.
-/
import Derived.Test.YtohcehphgihplaaChecked
import GoSem.Claim
import GoSem.ClaimJoined
import GoSem.ClaimMapViews
import Derived.JoinedTies
import Derived.KernelRfl
namespace Go.Proofs.Ytohcehphgihplaa
/- THE CELL 'sum', in the pinned program and in every row, IS THE sha256 OF THE DUMP (.gsa) THAT YtohcehphgihplaaProg.lean LOADS. Nothing in Lean hashes anything: it is a label: what it is worth is what the hold of that sum in a sandbox is worth. -/
noncomputable def Try.pinned : Pinned := { name := "ytohcehphgihplaa", sum := "3643ccd28aa91b5159bf24921d0354c46aa9d0b4641a5f845e150bb3c26d1c4f", checked := Try.checked }
namespace Rows
def none {H : Type} : Left H := { results := [], args := [] }

/-- 'templelaw15.TableFull': WHATEVER THE INPUT: true; the input reads as it did. -/
def tableFullSpec : ChangeSpec := { name := "tableFull", fn := fun _ => fun
  | [d1, d2] => { results := [.lit (.bool true)], args := [d1, d2] }
  | _ => none }
def tableFullRow : OpenClaim := { program := "ytohcehphgihplaa", sum := "3643ccd28aa91b5159bf24921d0354c46aa9d0b4641a5f845e150bb3c26d1c4f", func := "temple/templelaw15.TableFull", spec := "tableFull", unfollowed := true, recurses := true, plainKeys := false, apart := false }
def TableFullSaid : Prop := tableFullRow.holds Try.pinned (OpenSpec.ofChange tableFullSpec)

/-- ITS FALSE NEIGHBOUR: 'it returns false'. Refute it at one input. -/
def tableFullWrong : ChangeSpec := { name := "tableFull", fn := fun _ => fun
  | [d1, d2] => { results := [.lit (.bool false)], args := [d1, d2] }
  | _ => none }
def TableFullWrongFalsely : Prop := tableFullRow.holds Try.pinned (OpenSpec.ofChange tableFullWrong)

/-- 'templelaw15.TableTwins': WHATEVER THE INPUT: true; the input reads as it did. -/
def tableTwinsSpec : ChangeSpec := { name := "tableTwins", fn := fun _ => fun
  | [d1, d2] => { results := [.lit (.bool true)], args := [d1, d2] }
  | _ => none }
def tableTwinsRow : OpenClaim := { program := "ytohcehphgihplaa", sum := "3643ccd28aa91b5159bf24921d0354c46aa9d0b4641a5f845e150bb3c26d1c4f", func := "temple/templelaw15.TableTwins", spec := "tableTwins", unfollowed := true, recurses := true, plainKeys := false, apart := false }
def TableTwinsSaid : Prop := tableTwinsRow.holds Try.pinned (OpenSpec.ofChange tableTwinsSpec)

/-- ITS FALSE NEIGHBOUR: 'it returns false'. Refute it at one input. -/
def tableTwinsWrong : ChangeSpec := { name := "tableTwins", fn := fun _ => fun
  | [d1, d2] => { results := [.lit (.bool false)], args := [d1, d2] }
  | _ => none }
def TableTwinsWrongFalsely : Prop := tableTwinsRow.holds Try.pinned (OpenSpec.ofChange tableTwinsWrong)

/-- 'templelaw15.TableOdds': WHATEVER THE INPUT: true; the input reads as it did. -/
def tableOddsSpec : ChangeSpec := { name := "tableOdds", fn := fun _ => fun
  | [d] => { results := [.lit (.bool true)], args := [d] }
  | _ => none }
def tableOddsRow : OpenClaim := { program := "ytohcehphgihplaa", sum := "3643ccd28aa91b5159bf24921d0354c46aa9d0b4641a5f845e150bb3c26d1c4f", func := "temple/templelaw15.TableOdds", spec := "tableOdds", unfollowed := true, recurses := true, plainKeys := false, apart := false }
def TableOddsSaid : Prop := tableOddsRow.holds Try.pinned (OpenSpec.ofChange tableOddsSpec)

/-- ITS FALSE NEIGHBOUR: 'it returns false'. Refute it at one input. -/
def tableOddsWrong : ChangeSpec := { name := "tableOdds", fn := fun _ => fun
  | [d] => { results := [.lit (.bool false)], args := [d] }
  | _ => none }
def TableOddsWrongFalsely : Prop := tableOddsRow.holds Try.pinned (OpenSpec.ofChange tableOddsWrong)

/-- 'templelaw15.TableBytes': WHATEVER THE INPUT: true; the input reads as it did. -/
def tableBytesSpec : ChangeSpec := { name := "tableBytes", fn := fun _ => fun
  | [d1, d2, d3] => { results := [.lit (.bool true)], args := [d1, d2, d3] }
  | _ => none }
def tableBytesRow : OpenClaim := { program := "ytohcehphgihplaa", sum := "3643ccd28aa91b5159bf24921d0354c46aa9d0b4641a5f845e150bb3c26d1c4f", func := "temple/templelaw15.TableBytes", spec := "tableBytes", unfollowed := true, recurses := true, plainKeys := false, apart := false }
def TableBytesSaid : Prop := tableBytesRow.holds Try.pinned (OpenSpec.ofChange tableBytesSpec)

/-- ITS FALSE NEIGHBOUR: 'it returns false'. Refute it at one input. -/
def tableBytesWrong : ChangeSpec := { name := "tableBytes", fn := fun _ => fun
  | [d1, d2, d3] => { results := [.lit (.bool false)], args := [d1, d2, d3] }
  | _ => none }
def TableBytesWrongFalsely : Prop := tableBytesRow.holds Try.pinned (OpenSpec.ofChange tableBytesWrong)

/-- 'templelaw15.TableLevels': WHATEVER THE INPUT: true; the input reads as it did. -/
def tableLevelsSpec : ChangeSpec := { name := "tableLevels", fn := fun _ => fun
  | [d1, d2] => { results := [.lit (.bool true)], args := [d1, d2] }
  | _ => none }
def tableLevelsRow : OpenClaim := { program := "ytohcehphgihplaa", sum := "3643ccd28aa91b5159bf24921d0354c46aa9d0b4641a5f845e150bb3c26d1c4f", func := "temple/templelaw15.TableLevels", spec := "tableLevels", unfollowed := true, recurses := true, plainKeys := false, apart := false }
def TableLevelsSaid : Prop := tableLevelsRow.holds Try.pinned (OpenSpec.ofChange tableLevelsSpec)

/-- ITS FALSE NEIGHBOUR: 'it returns false'. Refute it at one input. -/
def tableLevelsWrong : ChangeSpec := { name := "tableLevels", fn := fun _ => fun
  | [d1, d2] => { results := [.lit (.bool false)], args := [d1, d2] }
  | _ => none }
def TableLevelsWrongFalsely : Prop := tableLevelsRow.holds Try.pinned (OpenSpec.ofChange tableLevelsWrong)

/-- 'templelaw15.TableSteps': WHATEVER THE INPUT: true; the input reads as it did. -/
def tableStepsSpec : ChangeSpec := { name := "tableSteps", fn := fun _ => fun
  | [d1, d2] => { results := [.lit (.bool true)], args := [d1, d2] }
  | _ => none }
def tableStepsRow : OpenClaim := { program := "ytohcehphgihplaa", sum := "3643ccd28aa91b5159bf24921d0354c46aa9d0b4641a5f845e150bb3c26d1c4f", func := "temple/templelaw15.TableSteps", spec := "tableSteps", unfollowed := true, recurses := true, plainKeys := false, apart := false }
def TableStepsSaid : Prop := tableStepsRow.holds Try.pinned (OpenSpec.ofChange tableStepsSpec)

/-- ITS FALSE NEIGHBOUR: 'it returns false'. Refute it at one input. -/
def tableStepsWrong : ChangeSpec := { name := "tableSteps", fn := fun _ => fun
  | [d1, d2] => { results := [.lit (.bool false)], args := [d1, d2] }
  | _ => none }
def TableStepsWrongFalsely : Prop := tableStepsRow.holds Try.pinned (OpenSpec.ofChange tableStepsWrong)

/-- 'templelaw15.TableAgain': WHATEVER THE INPUT: true; the input reads as it did. -/
def tableAgainSpec : ChangeSpec := { name := "tableAgain", fn := fun _ => fun
  | [d1, d2, d3] => { results := [.lit (.bool true)], args := [d1, d2, d3] }
  | _ => none }
def tableAgainRow : OpenClaim := { program := "ytohcehphgihplaa", sum := "3643ccd28aa91b5159bf24921d0354c46aa9d0b4641a5f845e150bb3c26d1c4f", func := "temple/templelaw15.TableAgain", spec := "tableAgain", unfollowed := true, recurses := true, plainKeys := false, apart := false }
def TableAgainSaid : Prop := tableAgainRow.holds Try.pinned (OpenSpec.ofChange tableAgainSpec)

/-- ITS FALSE NEIGHBOUR: 'it returns false'. Refute it at one input. -/
def tableAgainWrong : ChangeSpec := { name := "tableAgain", fn := fun _ => fun
  | [d1, d2, d3] => { results := [.lit (.bool false)], args := [d1, d2, d3] }
  | _ => none }
def TableAgainWrongFalsely : Prop := tableAgainRow.holds Try.pinned (OpenSpec.ofChange tableAgainWrong)

/- THE SECOND FORM. 'bulk': how many values and letters a reading holds, each counted each time it is reached (what is shared counts as often as it is met; a slice's spare places count too). A statement '..UptoSaid' is the law's where the arguments, and the package variables that the reading takes, are together of bulk at most 1048576: NARROWER than '..Said'. Prove '..Said' where nothing that the law and all that it calls make is longer than what came in: it says more and counts as full. Else prove '..UptoSaid'. A law counts once. -/
mutual
def uptoBulk {H : Type} : DataW H → Nat
  | .lit (.string bytes) => bytes.length + 1
  | .lit _ => 1
  | .nil => 1
  | .ptr d => uptoBulk d + 1
  | .slice elems spare => uptoBulkAll elems + uptoBulkAll spare + 1
  | .agg parts => uptoBulkAll parts + 1
  | .iface _ d => uptoBulk d + 1
  | .map entries => uptoBulkEntries entries + 1
  | .held _ => 1
def uptoBulkAll {H : Type} : List (DataW H) → Nat
  | [] => 0
  | d :: r => uptoBulk d + uptoBulkAll r
def uptoBulkEntries {H : Type} : List (Lit × DataW H) → Nat
  | [] => 0
  | x :: r => uptoBulkEntry x + uptoBulkEntries r
def uptoBulkEntry {H : Type} : Lit × DataW H → Nat
  | (.string bytes, d) => bytes.length + uptoBulk d + 1
  | (_, d) => uptoBulk d + 1
 end
def uptoSmall : (H : Type) → List (DataW H) → Bool := fun _ ds => decide (uptoBulkAll ds ≤ 1048576)
def OpenSpec.upto (s : _root_.Go.ChangeSpec) : _root_.Go.OpenSpec := { _root_.Go.OpenSpec.ofChange s with cond := some uptoSmall }

/-- 'templelaw15.TableFull', WHERE WHAT IT READS IS OF BULK AT MOST 1048576: true; the input reads as it did. -/
def tableFullUptoRow : OpenClaim := { program := "ytohcehphgihplaa", sum := "3643ccd28aa91b5159bf24921d0354c46aa9d0b4641a5f845e150bb3c26d1c4f", func := "temple/templelaw15.TableFull", spec := "tableFull", unfollowed := true, recurses := true, plainKeys := false, apart := false, narrowed := true }
def TableFullUptoSaid : Prop := tableFullUptoRow.holds Try.pinned (OpenSpec.upto tableFullSpec)

/-- 'templelaw15.TableTwins', WHERE WHAT IT READS IS OF BULK AT MOST 1048576: true; the input reads as it did. -/
def tableTwinsUptoRow : OpenClaim := { program := "ytohcehphgihplaa", sum := "3643ccd28aa91b5159bf24921d0354c46aa9d0b4641a5f845e150bb3c26d1c4f", func := "temple/templelaw15.TableTwins", spec := "tableTwins", unfollowed := true, recurses := true, plainKeys := false, apart := false, narrowed := true }
def TableTwinsUptoSaid : Prop := tableTwinsUptoRow.holds Try.pinned (OpenSpec.upto tableTwinsSpec)

/-- 'templelaw15.TableOdds', WHERE WHAT IT READS IS OF BULK AT MOST 1048576: true; the input reads as it did. -/
def tableOddsUptoRow : OpenClaim := { program := "ytohcehphgihplaa", sum := "3643ccd28aa91b5159bf24921d0354c46aa9d0b4641a5f845e150bb3c26d1c4f", func := "temple/templelaw15.TableOdds", spec := "tableOdds", unfollowed := true, recurses := true, plainKeys := false, apart := false, narrowed := true }
def TableOddsUptoSaid : Prop := tableOddsUptoRow.holds Try.pinned (OpenSpec.upto tableOddsSpec)

/-- 'templelaw15.TableBytes', WHERE WHAT IT READS IS OF BULK AT MOST 1048576: true; the input reads as it did. -/
def tableBytesUptoRow : OpenClaim := { program := "ytohcehphgihplaa", sum := "3643ccd28aa91b5159bf24921d0354c46aa9d0b4641a5f845e150bb3c26d1c4f", func := "temple/templelaw15.TableBytes", spec := "tableBytes", unfollowed := true, recurses := true, plainKeys := false, apart := false, narrowed := true }
def TableBytesUptoSaid : Prop := tableBytesUptoRow.holds Try.pinned (OpenSpec.upto tableBytesSpec)

/-- 'templelaw15.TableLevels', WHERE WHAT IT READS IS OF BULK AT MOST 1048576: true; the input reads as it did. -/
def tableLevelsUptoRow : OpenClaim := { program := "ytohcehphgihplaa", sum := "3643ccd28aa91b5159bf24921d0354c46aa9d0b4641a5f845e150bb3c26d1c4f", func := "temple/templelaw15.TableLevels", spec := "tableLevels", unfollowed := true, recurses := true, plainKeys := false, apart := false, narrowed := true }
def TableLevelsUptoSaid : Prop := tableLevelsUptoRow.holds Try.pinned (OpenSpec.upto tableLevelsSpec)

/-- 'templelaw15.TableSteps', WHERE WHAT IT READS IS OF BULK AT MOST 1048576: true; the input reads as it did. -/
def tableStepsUptoRow : OpenClaim := { program := "ytohcehphgihplaa", sum := "3643ccd28aa91b5159bf24921d0354c46aa9d0b4641a5f845e150bb3c26d1c4f", func := "temple/templelaw15.TableSteps", spec := "tableSteps", unfollowed := true, recurses := true, plainKeys := false, apart := false, narrowed := true }
def TableStepsUptoSaid : Prop := tableStepsUptoRow.holds Try.pinned (OpenSpec.upto tableStepsSpec)

/-- 'templelaw15.TableAgain', WHERE WHAT IT READS IS OF BULK AT MOST 1048576: true; the input reads as it did. -/
def tableAgainUptoRow : OpenClaim := { program := "ytohcehphgihplaa", sum := "3643ccd28aa91b5159bf24921d0354c46aa9d0b4641a5f845e150bb3c26d1c4f", func := "temple/templelaw15.TableAgain", spec := "tableAgain", unfollowed := true, recurses := true, plainKeys := false, apart := false, narrowed := true }
def TableAgainUptoSaid : Prop := tableAgainUptoRow.holds Try.pinned (OpenSpec.upto tableAgainSpec)

end Rows
end Go.Proofs.Ytohcehphgihplaa
