/-
  Law PackTurned of chapter 18, for the row. Own work; no claim stands here.
-/
import Derived.Test.YtokccimmgilciaaPLaw18
namespace Go.Proofs.Ytokccimmgilciaa
open S
set_option linter.unusedVariables false
theorem bound_of {T : Type} (xs : List T) (f : T → Nat) : ∃ K, ∀ x ∈ xs, f x < K := by
  induction xs with
  | nil => exact ⟨0, fun _ h => nomatch h⟩
  | cons a t ih =>
    obtain ⟨K, hK⟩ := ih
    refine ⟨K + f a + 1, fun x hx => ?_⟩
    rcases List.mem_cons.1 hx with rfl | h
    · omega
    · have := hK x h; omega
theorem reach_le : reachBytes = 140737488351232 := by decide
theorem PR_wf (c : Cert) (w : wfCert c) : ∃ K, 70000 ≤ K ∧ PR K c := by
  obtain ⟨_, w1, w2⟩ := w
  rw [reach_le] at w1
  have hp : ∀ x ∈ c.Nodes, x.Picks.length ≤ 140737488355328 := fun x hx => by
    obtain ⟨_, _, _, _, _, _, _, h, _⟩ := w2 x hx
    rw [reach_le] at h; omega
  have hk : ∀ x ∈ c.Nodes, ∀ p ∈ x.Picks, p.Kids.length ≤ 140737488355328 := fun x hx p hq => by
    obtain ⟨_, _, _, _, _, _, _, _, h⟩ := w2 x hx
    obtain ⟨_, _, h, _⟩ := h p hq
    rw [reach_le] at h; omega
  refine ⟨140737488355328 + 1, by omega, ⟨by omega, by omega⟩, fun x hx => ⟨by have := hp x hx; omega, hp x hx⟩, fun x hx p hq => ⟨by have := hk x hx p hq; omega, hk x hx p hq⟩⟩
theorem PackTurned_holds (c : Cert) (a b : Int) (w : wfCert c) (_ : wfI .i64 a) (_ : wfI .i64 b) : ∃ K, templelaw18_PackTurned K c a b = some true := by
  obtain ⟨K, hK, h⟩ := PR_wf c w
  exact ⟨K, PackTurned_true K hK c a b h⟩
end Go.Proofs.Ytokccimmgilciaa
