/-
  Sim: the sorted keys, as one list. Own work; no claim stands here.
-/
import Derived.Test.YtpjhcllohagjoaaSY
namespace Go.Proofs.Ytpjhcllohagjoaa
namespace S
open Go.RowKit Go.Sort
set_option linter.unusedVariables false
set_option linter.unusedSectionVars false

section
variable {κ : Type} [Inhabited κ] {cf : κ → κ → Int}
def sortL (cf : κ → κ → Int) (ks : List κ) : List κ := ks.mergeSort fun x y => !(ltOf cf y x)

theorem sortedBy_pairwise {ys : List κ} (h : SortedBy cf ys) : ys.Pairwise fun x y => (!(ltOf cf y x)) = true := by
  rw [List.pairwise_iff_getElem]
  intro i j hi hj hij
  have := h i j (Nat.zero_le _) hij hj
  simpa [hi, hj] using this
theorem perm_unique {r : κ → κ → Prop} (ha : ∀ x y, r x y → r y x → x = y) : ∀ {ys zs : List κ}, ys.Perm zs → ys.Pairwise r → zs.Pairwise r → ys = zs
  | [], zs, hp, _, _ => by rw [List.nil_perm.1 hp]
  | y :: ys, [], hp, _, _ => by have := hp.length_eq; simp at this
  | y :: ys, z :: zs, hp, h1, h2 => by
    obtain ⟨h1a, h1b⟩ := List.pairwise_cons.1 h1
    obtain ⟨h2a, h2b⟩ := List.pairwise_cons.1 h2
    have hyz : y = z := by
      have hy : y ∈ z :: zs := hp.subset (.head _)
      have hz : z ∈ y :: ys := hp.symm.subset (.head _)
      rcases List.mem_cons.1 hy with e | hy
      · exact e
      rcases List.mem_cons.1 hz with e | hz
      · exact e.symm
      exact ha _ _ (h1a z hz) (h2a y hy)
    subst hyz
    rw [perm_unique ha (List.Perm.cons_inv hp) h1b h2b]
/-- Sorted, a permutation: there is but one. -/
theorem sortL_is (hO : SWO (ltOf cf)) (ha : ∀ x y, ltOf cf x y = false → ltOf cf y x = false → x = y) {ys ks : List κ} (hp : ys.Perm ks) (hs : SortedBy cf ys) : ys = sortL cf ks := by
  refine perm_unique (r := fun x y => (!(ltOf cf y x)) = true) (fun x y h1 h2 => ha x y (by simpa using h2) (by simpa using h1)) (hp.trans (List.mergeSort_perm _ _).symm) (sortedBy_pairwise hs) ?_
  refine List.pairwise_mergeSort (fun a b c h1 h2 => ?_) (fun a b => ?_) _
  · have := hO.ntrans c b a (by simpa using h2) (by simpa using h1)
    simpa using this
  · by_cases h : ltOf cf b a = true
    · have : ltOf cf a b = false := by
        cases hab : ltOf cf a b with
        | false => rfl
        | true => have := hO.trans _ _ _ h hab; rw [hO.irrefl] at this; cases this
      simp [this]
    · simp [h]
end
end S
end Go.Proofs.Ytpjhcllohagjoaa
