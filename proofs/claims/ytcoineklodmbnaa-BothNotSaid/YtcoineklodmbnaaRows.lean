/-
  No cell of these rows narrows 'for every input' (looked for: loops, veiled, ifaces, maps, wideKeys, modest, calm, conditions, laid).
  DERIVED. THE GIVEN ROWS OF THIS SEAT. 4 by the template 'for every input the law returns true; each argument reads behind the call as it read before'; 0 by the template 'total and deterministic' (their statements: YtcoineklodmbnaaTotals.lean).
  GIVEN WITH THE SEED: the statements are not yours to turn. If you find one false, say at which input.
  Laid BY PROGRAM, IN A SANDBOX (cutbox-rows.mjs): the forced cells as the released guide's own fill.sh prints them over the translation 826d38e52c771423… (all of the seat's roots in one cut). By AI agents, Wed Nov 11 2026. No macro, syntax, notation, axiom, sorry.
-/
import Derived.Test.YtcoineklodmbnaaChecked
import GoSem.Claim
import GoSem.ClaimJoined
import GoSem.ClaimMapViews
import Derived.JoinedTies
import Derived.KernelRfl
namespace Go.Proofs.Ytcoineklodmbnaa
/- THE CELL 'sum', in the pinned program and in every row, IS THE sha256 OF THE DUMP (.gsa) THAT YtcoineklodmbnaaProg.lean LOADS. Nothing in Lean hashes anything: it is a label: what it is worth is what the hold of that sum in a sandbox is worth. -/
noncomputable def Try.pinned : Pinned := { name := "ytcoineklodmbnaa", sum := "826d38e52c771423ed36c84a9f4c76b78c573c7d4d47694ae6ddb7b05f6cbb56", checked := Try.checked }
namespace Rows
def none {H : Type} : Left H := { results := [], args := [] }

/-- 'templelaw17.BothFull': WHATEVER THE INPUT: true; the input reads as it did. -/
def bothFullSpec : ChangeSpec := { name := "bothFull", fn := fun _ => fun
  | [d] => { results := [.lit (.bool true)], args := [d] }
  | _ => none }
def bothFullRow : OpenClaim := { program := "ytcoineklodmbnaa", sum := "826d38e52c771423ed36c84a9f4c76b78c573c7d4d47694ae6ddb7b05f6cbb56", func := "temple/templelaw17.BothFull", spec := "bothFull", unfollowed := true, recurses := true, plainKeys := false, apart := false }
def BothFullSaid : Prop := bothFullRow.holds Try.pinned (OpenSpec.ofChange bothFullSpec)

/-- ITS FALSE NEIGHBOUR: 'it returns false'. Refute it at one input. -/
def bothFullWrong : ChangeSpec := { name := "bothFull", fn := fun _ => fun
  | [d] => { results := [.lit (.bool false)], args := [d] }
  | _ => none }
def BothFullWrongFalsely : Prop := bothFullRow.holds Try.pinned (OpenSpec.ofChange bothFullWrong)

/-- 'templelaw17.BothAgree': WHATEVER THE INPUT: true; the input reads as it did. -/
def bothAgreeSpec : ChangeSpec := { name := "bothAgree", fn := fun _ => fun
  | [d1, d2] => { results := [.lit (.bool true)], args := [d1, d2] }
  | _ => none }
def bothAgreeRow : OpenClaim := { program := "ytcoineklodmbnaa", sum := "826d38e52c771423ed36c84a9f4c76b78c573c7d4d47694ae6ddb7b05f6cbb56", func := "temple/templelaw17.BothAgree", spec := "bothAgree", unfollowed := true, recurses := true, plainKeys := false, apart := false }
def BothAgreeSaid : Prop := bothAgreeRow.holds Try.pinned (OpenSpec.ofChange bothAgreeSpec)

/-- ITS FALSE NEIGHBOUR: 'it returns false'. Refute it at one input. -/
def bothAgreeWrong : ChangeSpec := { name := "bothAgree", fn := fun _ => fun
  | [d1, d2] => { results := [.lit (.bool false)], args := [d1, d2] }
  | _ => none }
def BothAgreeWrongFalsely : Prop := bothAgreeRow.holds Try.pinned (OpenSpec.ofChange bothAgreeWrong)

/-- 'templelaw17.BothNot': WHATEVER THE INPUT: true; the input reads as it did. -/
def bothNotSpec : ChangeSpec := { name := "bothNot", fn := fun _ => fun
  | [d1, d2] => { results := [.lit (.bool true)], args := [d1, d2] }
  | _ => none }
def bothNotRow : OpenClaim := { program := "ytcoineklodmbnaa", sum := "826d38e52c771423ed36c84a9f4c76b78c573c7d4d47694ae6ddb7b05f6cbb56", func := "temple/templelaw17.BothNot", spec := "bothNot", unfollowed := true, recurses := true, plainKeys := false, apart := false }
def BothNotSaid : Prop := bothNotRow.holds Try.pinned (OpenSpec.ofChange bothNotSpec)

/-- ITS FALSE NEIGHBOUR: 'it returns false'. Refute it at one input. -/
def bothNotWrong : ChangeSpec := { name := "bothNot", fn := fun _ => fun
  | [d1, d2] => { results := [.lit (.bool false)], args := [d1, d2] }
  | _ => none }
def BothNotWrongFalsely : Prop := bothNotRow.holds Try.pinned (OpenSpec.ofChange bothNotWrong)

/-- 'templelaw17.BothParts': WHATEVER THE INPUT: true; the input reads as it did. -/
def bothPartsSpec : ChangeSpec := { name := "bothParts", fn := fun _ => fun
  | [d1, d2, d3] => { results := [.lit (.bool true)], args := [d1, d2, d3] }
  | _ => none }
def bothPartsRow : OpenClaim := { program := "ytcoineklodmbnaa", sum := "826d38e52c771423ed36c84a9f4c76b78c573c7d4d47694ae6ddb7b05f6cbb56", func := "temple/templelaw17.BothParts", spec := "bothParts", unfollowed := true, recurses := true, plainKeys := false, apart := false }
def BothPartsSaid : Prop := bothPartsRow.holds Try.pinned (OpenSpec.ofChange bothPartsSpec)

/-- ITS FALSE NEIGHBOUR: 'it returns false'. Refute it at one input. -/
def bothPartsWrong : ChangeSpec := { name := "bothParts", fn := fun _ => fun
  | [d1, d2, d3] => { results := [.lit (.bool false)], args := [d1, d2, d3] }
  | _ => none }
def BothPartsWrongFalsely : Prop := bothPartsRow.holds Try.pinned (OpenSpec.ofChange bothPartsWrong)

/- THE SECOND FORM. 'bulk': how many values and letters a reading holds, each counted each time it is reached (what is shared counts as often as it is met; a slice's spare places count too). A statement '..UptoSaid' is the law's where the arguments, and the package variables that the reading takes, are together of bulk at most 1048576: NARROWER than '..Said'. Prove '..Said' where nothing that the law and all that it calls make is longer than what came in: it says more and counts as full. Else prove '..UptoSaid'. A law counts once. -/
mutual
def uptoBulk {H : Type} : DataW H → Nat
  | .lit (.string bytes) => bytes.length + 1
  | .lit _ => 1
  | .nil => 1
  | .ptr d => uptoBulk d + 1
  | .slice elems spare => uptoBulkAll elems + uptoBulkAll spare + 1
  | .agg parts => uptoBulkAll parts + 1
  | .iface _ d => uptoBulk d + 1
  | .map entries => uptoBulkEntries entries + 1
  | .held _ => 1
def uptoBulkAll {H : Type} : List (DataW H) → Nat
  | [] => 0
  | d :: r => uptoBulk d + uptoBulkAll r
def uptoBulkEntries {H : Type} : List (Lit × DataW H) → Nat
  | [] => 0
  | x :: r => uptoBulkEntry x + uptoBulkEntries r
def uptoBulkEntry {H : Type} : Lit × DataW H → Nat
  | (.string bytes, d) => bytes.length + uptoBulk d + 1
  | (_, d) => uptoBulk d + 1
 end
def uptoSmall : (H : Type) → List (DataW H) → Bool := fun _ ds => decide (uptoBulkAll ds ≤ 1048576)
def OpenSpec.upto (s : _root_.Go.ChangeSpec) : _root_.Go.OpenSpec := { _root_.Go.OpenSpec.ofChange s with cond := some uptoSmall }

/-- 'templelaw17.BothFull', WHERE WHAT IT READS IS OF BULK AT MOST 1048576: true; the input reads as it did. -/
def bothFullUptoRow : OpenClaim := { program := "ytcoineklodmbnaa", sum := "826d38e52c771423ed36c84a9f4c76b78c573c7d4d47694ae6ddb7b05f6cbb56", func := "temple/templelaw17.BothFull", spec := "bothFull", unfollowed := true, recurses := true, plainKeys := false, apart := false, narrowed := true }
def BothFullUptoSaid : Prop := bothFullUptoRow.holds Try.pinned (OpenSpec.upto bothFullSpec)

/-- 'templelaw17.BothAgree', WHERE WHAT IT READS IS OF BULK AT MOST 1048576: true; the input reads as it did. -/
def bothAgreeUptoRow : OpenClaim := { program := "ytcoineklodmbnaa", sum := "826d38e52c771423ed36c84a9f4c76b78c573c7d4d47694ae6ddb7b05f6cbb56", func := "temple/templelaw17.BothAgree", spec := "bothAgree", unfollowed := true, recurses := true, plainKeys := false, apart := false, narrowed := true }
def BothAgreeUptoSaid : Prop := bothAgreeUptoRow.holds Try.pinned (OpenSpec.upto bothAgreeSpec)

/-- 'templelaw17.BothNot', WHERE WHAT IT READS IS OF BULK AT MOST 1048576: true; the input reads as it did. -/
def bothNotUptoRow : OpenClaim := { program := "ytcoineklodmbnaa", sum := "826d38e52c771423ed36c84a9f4c76b78c573c7d4d47694ae6ddb7b05f6cbb56", func := "temple/templelaw17.BothNot", spec := "bothNot", unfollowed := true, recurses := true, plainKeys := false, apart := false, narrowed := true }
def BothNotUptoSaid : Prop := bothNotUptoRow.holds Try.pinned (OpenSpec.upto bothNotSpec)

/-- 'templelaw17.BothParts', WHERE WHAT IT READS IS OF BULK AT MOST 1048576: true; the input reads as it did. -/
def bothPartsUptoRow : OpenClaim := { program := "ytcoineklodmbnaa", sum := "826d38e52c771423ed36c84a9f4c76b78c573c7d4d47694ae6ddb7b05f6cbb56", func := "temple/templelaw17.BothParts", spec := "bothParts", unfollowed := true, recurses := true, plainKeys := false, apart := false, narrowed := true }
def BothPartsUptoSaid : Prop := bothPartsUptoRow.holds Try.pinned (OpenSpec.upto bothPartsSpec)

end Rows
end Go.Proofs.Ytcoineklodmbnaa
