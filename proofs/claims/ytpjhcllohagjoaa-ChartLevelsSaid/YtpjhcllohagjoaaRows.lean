/-
  No cell of these rows narrows 'for every input' (looked for: loops, veiled, ifaces, maps, wideKeys, modest, calm, conditions, laid).
  DERIVED. THE GIVEN ROWS OF THIS SEAT. 5 by the template 'for every input the law returns true; each argument reads behind the call as it read before'; 0 by the template 'total and deterministic' (their statements: YtpjhcllohagjoaaTotals.lean).
  GIVEN WITH THE SEED: the statements are not yours to turn. If you find one false, say at which input.
  Laid BY PROGRAM, IN A SANDBOX (cutbox-rows.mjs): the forced cells as the released guide's own fill.sh prints them over the translation 9fdcdb888e3a2f4e… (all of the seat's roots in one cut). By AI agents, Wed Nov 11 2026. No macro, syntax, notation, axiom, sorry.
-/
import Derived.Test.YtpjhcllohagjoaaChecked
import GoSem.Claim
import GoSem.ClaimJoined
import GoSem.ClaimMapViews
import Derived.JoinedTies
import Derived.KernelRfl
namespace Go.Proofs.Ytpjhcllohagjoaa
/- THE CELL 'sum', in the pinned program and in every row, IS THE sha256 OF THE DUMP (.gsa) THAT YtpjhcllohagjoaaProg.lean LOADS. Nothing in Lean hashes anything: it is a label: what it is worth is what the hold of that sum in a sandbox is worth. -/
noncomputable def Try.pinned : Pinned := { name := "ytpjhcllohagjoaa", sum := "9fdcdb888e3a2f4e2bcaeeaf812c439f31bf1f5266730734cf035b075faa29f0", checked := Try.checked }
namespace Rows
def none {H : Type} : Left H := { results := [], args := [] }

/-- 'templelaw16.ChartFull': WHATEVER THE INPUT: true; the input reads as it did. -/
def chartFullSpec : ChangeSpec := { name := "chartFull", fn := fun _ => fun
  | [d1, d2] => { results := [.lit (.bool true)], args := [d1, d2] }
  | _ => none }
def chartFullRow : OpenClaim := { program := "ytpjhcllohagjoaa", sum := "9fdcdb888e3a2f4e2bcaeeaf812c439f31bf1f5266730734cf035b075faa29f0", func := "temple/templelaw16.ChartFull", spec := "chartFull", unfollowed := true, recurses := true, plainKeys := false, apart := false }
def ChartFullSaid : Prop := chartFullRow.holds Try.pinned (OpenSpec.ofChange chartFullSpec)

/-- ITS FALSE NEIGHBOUR: 'it returns false'. Refute it at one input. -/
def chartFullWrong : ChangeSpec := { name := "chartFull", fn := fun _ => fun
  | [d1, d2] => { results := [.lit (.bool false)], args := [d1, d2] }
  | _ => none }
def ChartFullWrongFalsely : Prop := chartFullRow.holds Try.pinned (OpenSpec.ofChange chartFullWrong)

/-- 'templelaw16.ChartTwins': WHATEVER THE INPUT: true; the input reads as it did. -/
def chartTwinsSpec : ChangeSpec := { name := "chartTwins", fn := fun _ => fun
  | [d1, d2] => { results := [.lit (.bool true)], args := [d1, d2] }
  | _ => none }
def chartTwinsRow : OpenClaim := { program := "ytpjhcllohagjoaa", sum := "9fdcdb888e3a2f4e2bcaeeaf812c439f31bf1f5266730734cf035b075faa29f0", func := "temple/templelaw16.ChartTwins", spec := "chartTwins", unfollowed := true, recurses := true, plainKeys := false, apart := false }
def ChartTwinsSaid : Prop := chartTwinsRow.holds Try.pinned (OpenSpec.ofChange chartTwinsSpec)

/-- ITS FALSE NEIGHBOUR: 'it returns false'. Refute it at one input. -/
def chartTwinsWrong : ChangeSpec := { name := "chartTwins", fn := fun _ => fun
  | [d1, d2] => { results := [.lit (.bool false)], args := [d1, d2] }
  | _ => none }
def ChartTwinsWrongFalsely : Prop := chartTwinsRow.holds Try.pinned (OpenSpec.ofChange chartTwinsWrong)

/-- 'templelaw16.ChartOdds': WHATEVER THE INPUT: true; the input reads as it did. -/
def chartOddsSpec : ChangeSpec := { name := "chartOdds", fn := fun _ => fun
  | [d] => { results := [.lit (.bool true)], args := [d] }
  | _ => none }
def chartOddsRow : OpenClaim := { program := "ytpjhcllohagjoaa", sum := "9fdcdb888e3a2f4e2bcaeeaf812c439f31bf1f5266730734cf035b075faa29f0", func := "temple/templelaw16.ChartOdds", spec := "chartOdds", unfollowed := true, recurses := true, plainKeys := false, apart := false }
def ChartOddsSaid : Prop := chartOddsRow.holds Try.pinned (OpenSpec.ofChange chartOddsSpec)

/-- ITS FALSE NEIGHBOUR: 'it returns false'. Refute it at one input. -/
def chartOddsWrong : ChangeSpec := { name := "chartOdds", fn := fun _ => fun
  | [d] => { results := [.lit (.bool false)], args := [d] }
  | _ => none }
def ChartOddsWrongFalsely : Prop := chartOddsRow.holds Try.pinned (OpenSpec.ofChange chartOddsWrong)

/-- 'templelaw16.ChartBytes': WHATEVER THE INPUT: true; the input reads as it did. -/
def chartBytesSpec : ChangeSpec := { name := "chartBytes", fn := fun _ => fun
  | [d1, d2, d3] => { results := [.lit (.bool true)], args := [d1, d2, d3] }
  | _ => none }
def chartBytesRow : OpenClaim := { program := "ytpjhcllohagjoaa", sum := "9fdcdb888e3a2f4e2bcaeeaf812c439f31bf1f5266730734cf035b075faa29f0", func := "temple/templelaw16.ChartBytes", spec := "chartBytes", unfollowed := true, recurses := true, plainKeys := false, apart := false }
def ChartBytesSaid : Prop := chartBytesRow.holds Try.pinned (OpenSpec.ofChange chartBytesSpec)

/-- ITS FALSE NEIGHBOUR: 'it returns false'. Refute it at one input. -/
def chartBytesWrong : ChangeSpec := { name := "chartBytes", fn := fun _ => fun
  | [d1, d2, d3] => { results := [.lit (.bool false)], args := [d1, d2, d3] }
  | _ => none }
def ChartBytesWrongFalsely : Prop := chartBytesRow.holds Try.pinned (OpenSpec.ofChange chartBytesWrong)

/-- 'templelaw16.ChartLevels': WHATEVER THE INPUT: true; the input reads as it did. -/
def chartLevelsSpec : ChangeSpec := { name := "chartLevels", fn := fun _ => fun
  | [d1, d2] => { results := [.lit (.bool true)], args := [d1, d2] }
  | _ => none }
def chartLevelsRow : OpenClaim := { program := "ytpjhcllohagjoaa", sum := "9fdcdb888e3a2f4e2bcaeeaf812c439f31bf1f5266730734cf035b075faa29f0", func := "temple/templelaw16.ChartLevels", spec := "chartLevels", unfollowed := true, recurses := true, plainKeys := false, apart := false }
def ChartLevelsSaid : Prop := chartLevelsRow.holds Try.pinned (OpenSpec.ofChange chartLevelsSpec)

/-- ITS FALSE NEIGHBOUR: 'it returns false'. Refute it at one input. -/
def chartLevelsWrong : ChangeSpec := { name := "chartLevels", fn := fun _ => fun
  | [d1, d2] => { results := [.lit (.bool false)], args := [d1, d2] }
  | _ => none }
def ChartLevelsWrongFalsely : Prop := chartLevelsRow.holds Try.pinned (OpenSpec.ofChange chartLevelsWrong)

/- THE SECOND FORM. 'bulk': how many values and letters a reading holds, each counted each time it is reached (what is shared counts as often as it is met; a slice's spare places count too). A statement '..UptoSaid' is the law's where the arguments, and the package variables that the reading takes, are together of bulk at most 1048576: NARROWER than '..Said'. Prove '..Said' where nothing that the law and all that it calls make is longer than what came in: it says more and counts as full. Else prove '..UptoSaid'. A law counts once. -/
mutual
def uptoBulk {H : Type} : DataW H → Nat
  | .lit (.string bytes) => bytes.length + 1
  | .lit _ => 1
  | .nil => 1
  | .ptr d => uptoBulk d + 1
  | .slice elems spare => uptoBulkAll elems + uptoBulkAll spare + 1
  | .agg parts => uptoBulkAll parts + 1
  | .iface _ d => uptoBulk d + 1
  | .map entries => uptoBulkEntries entries + 1
  | .held _ => 1
def uptoBulkAll {H : Type} : List (DataW H) → Nat
  | [] => 0
  | d :: r => uptoBulk d + uptoBulkAll r
def uptoBulkEntries {H : Type} : List (Lit × DataW H) → Nat
  | [] => 0
  | x :: r => uptoBulkEntry x + uptoBulkEntries r
def uptoBulkEntry {H : Type} : Lit × DataW H → Nat
  | (.string bytes, d) => bytes.length + uptoBulk d + 1
  | (_, d) => uptoBulk d + 1
 end
def uptoSmall : (H : Type) → List (DataW H) → Bool := fun _ ds => decide (uptoBulkAll ds ≤ 1048576)
def OpenSpec.upto (s : _root_.Go.ChangeSpec) : _root_.Go.OpenSpec := { _root_.Go.OpenSpec.ofChange s with cond := some uptoSmall }

/-- 'templelaw16.ChartFull', WHERE WHAT IT READS IS OF BULK AT MOST 1048576: true; the input reads as it did. -/
def chartFullUptoRow : OpenClaim := { program := "ytpjhcllohagjoaa", sum := "9fdcdb888e3a2f4e2bcaeeaf812c439f31bf1f5266730734cf035b075faa29f0", func := "temple/templelaw16.ChartFull", spec := "chartFull", unfollowed := true, recurses := true, plainKeys := false, apart := false, narrowed := true }
def ChartFullUptoSaid : Prop := chartFullUptoRow.holds Try.pinned (OpenSpec.upto chartFullSpec)

/-- 'templelaw16.ChartTwins', WHERE WHAT IT READS IS OF BULK AT MOST 1048576: true; the input reads as it did. -/
def chartTwinsUptoRow : OpenClaim := { program := "ytpjhcllohagjoaa", sum := "9fdcdb888e3a2f4e2bcaeeaf812c439f31bf1f5266730734cf035b075faa29f0", func := "temple/templelaw16.ChartTwins", spec := "chartTwins", unfollowed := true, recurses := true, plainKeys := false, apart := false, narrowed := true }
def ChartTwinsUptoSaid : Prop := chartTwinsUptoRow.holds Try.pinned (OpenSpec.upto chartTwinsSpec)

/-- 'templelaw16.ChartOdds', WHERE WHAT IT READS IS OF BULK AT MOST 1048576: true; the input reads as it did. -/
def chartOddsUptoRow : OpenClaim := { program := "ytpjhcllohagjoaa", sum := "9fdcdb888e3a2f4e2bcaeeaf812c439f31bf1f5266730734cf035b075faa29f0", func := "temple/templelaw16.ChartOdds", spec := "chartOdds", unfollowed := true, recurses := true, plainKeys := false, apart := false, narrowed := true }
def ChartOddsUptoSaid : Prop := chartOddsUptoRow.holds Try.pinned (OpenSpec.upto chartOddsSpec)

/-- 'templelaw16.ChartBytes', WHERE WHAT IT READS IS OF BULK AT MOST 1048576: true; the input reads as it did. -/
def chartBytesUptoRow : OpenClaim := { program := "ytpjhcllohagjoaa", sum := "9fdcdb888e3a2f4e2bcaeeaf812c439f31bf1f5266730734cf035b075faa29f0", func := "temple/templelaw16.ChartBytes", spec := "chartBytes", unfollowed := true, recurses := true, plainKeys := false, apart := false, narrowed := true }
def ChartBytesUptoSaid : Prop := chartBytesUptoRow.holds Try.pinned (OpenSpec.upto chartBytesSpec)

/-- 'templelaw16.ChartLevels', WHERE WHAT IT READS IS OF BULK AT MOST 1048576: true; the input reads as it did. -/
def chartLevelsUptoRow : OpenClaim := { program := "ytpjhcllohagjoaa", sum := "9fdcdb888e3a2f4e2bcaeeaf812c439f31bf1f5266730734cf035b075faa29f0", func := "temple/templelaw16.ChartLevels", spec := "chartLevels", unfollowed := true, recurses := true, plainKeys := false, apart := false, narrowed := true }
def ChartLevelsUptoSaid : Prop := chartLevelsUptoRow.holds Try.pinned (OpenSpec.upto chartLevelsSpec)

end Rows
end Go.Proofs.Ytpjhcllohagjoaa
