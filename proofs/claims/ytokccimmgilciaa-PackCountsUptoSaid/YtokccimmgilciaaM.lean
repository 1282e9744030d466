/-
  Measures of the laws' arguments: no more than what they read as counts. Printed by an own program.
-/
import Derived.Test.YtokccimmgilciaaSU
import Derived.Test.YtokccimmgilciaaT
namespace Go.Proofs.Ytokccimmgilciaa
open S
def muPlace (x : Place) : Nat := (muI x.Rule + (muI x.Conj + (muI x.Pos + 0))) + 1
def muPick (x : Pick) : Nat := (muI x.At + (muI x.Conj + ((muL muI) x.Kids + 0))) + 1
def muNode (x : Node) : Nat := (muB x.Sign + (muI x.Kind + (muI x.Name + (muPlace x.Place + (muI x.I + (muI x.J + (muI x.Rank + ((muL muPick) x.Picks + 0)))))))) + 1
def muCert (x : Cert) : Nat := (muI x.Root + ((muL muNode) x.Nodes + 0)) + 1
end Go.Proofs.Ytokccimmgilciaa
