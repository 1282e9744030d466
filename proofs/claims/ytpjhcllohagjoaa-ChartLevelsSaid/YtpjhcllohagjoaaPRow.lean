/-
  deps.row: the order of edges. Own work; no claim stands here.
-/
import Derived.Test.YtpjhcllohagjoaaPA
import Derived.Test.YtpjhcllohagjoaaSZ
import Derived.Test.YtpjhcllohagjoaaF1
namespace Go.Proofs.Ytpjhcllohagjoaa
set_option linter.unusedSimpArgs false
open S Go.Sort
set_option linter.unusedVariables false
def rowC (a b : Edge) : Int := if a.From < b.From then -1 else if b.From < a.From then 1 else if a.To < b.To then -1 else if b.To < a.To then 1 else if a.Neg = b.Neg then 0 else if a.Neg = true then 1 else -1
theorem compare_eq (K : Nat) (x y : Int) : cmp_Compare_int K x y = some (if x < y then -1 else if y < x then 1 else 0) := by
  unfold cmp_Compare_int cmp_isNaN_int
  simp only [Option.bind_some]
  by_cases h1 : x < y
  · simp [h1]
  · by_cases h2 : y < x <;> simp [h1, h2]
theorem or_eq (K : Nat) (hK : 10 ≤ K) (a b c : Int) : cmp_Or_int K [a, b, c] = some (if a ≠ 0 then a else if b ≠ 0 then b else c) := by
  obtain ⟨m, rfl⟩ : ∃ m, K = m + 4 := ⟨K - 4, by omega⟩
  have r0 : rd [a, b, c] 0 = a := rfl
  have r1 : rd [a, b, c] 1 = b := rfl
  have r2 : rd [a, b, c] 2 = c := rfl
  have l3 : (([a, b, c] : List Int).length : Int) = 3 := rfl
  have z0 : ∀ q n, cmp_Or_int.l0 q [a, b, c] (n + 1) 0 = if a ≠ 0 then some (.inr a) else cmp_Or_int.l0 q [a, b, c] n 1 := fun q n => by
    simp only [cmp_Or_int.l0]
    rw [l3, if_pos (show (0 : Int) < 3 by omega), if_pos (show (0 : Int) ≤ 0 by omega), r0, wr (a := 0 + 1) (by omega) (by omega)]; rfl
  have z1 : ∀ q n, cmp_Or_int.l0 q [a, b, c] (n + 1) 1 = if b ≠ 0 then some (.inr b) else cmp_Or_int.l0 q [a, b, c] n 2 := fun q n => by
    simp only [cmp_Or_int.l0]
    rw [l3, if_pos (show (1 : Int) < 3 by omega), if_pos (show (0 : Int) ≤ 1 by omega), r1, wr (a := 1 + 1) (by omega) (by omega)]; rfl
  have z2 : ∀ q n, cmp_Or_int.l0 q [a, b, c] (n + 1) 2 = if c ≠ 0 then some (.inr c) else cmp_Or_int.l0 q [a, b, c] n 3 := fun q n => by
    simp only [cmp_Or_int.l0]
    rw [l3, if_pos (show (2 : Int) < 3 by omega), if_pos (show (0 : Int) ≤ 2 by omega), r2, wr (a := 2 + 1) (by omega) (by omega)]; rfl
  have z3 : ∀ q n, cmp_Or_int.l0 q [a, b, c] (n + 1) 3 = some (.inl 3) := fun q n => by
    simp only [cmp_Or_int.l0]
    rw [l3, if_neg (show ¬ (3 : Int) < 3 by omega)]
  unfold cmp_Or_int
  rw [z0 (m + 4) (m + 3)]
  by_cases ha : a = 0
  · rw [if_neg (show ¬ a ≠ 0 from fun h => h ha), if_neg (show ¬ a ≠ 0 from fun h => h ha), z1 (m + 4) (m + 2)]
    by_cases hb : b = 0
    · rw [if_neg (show ¬ b ≠ 0 from fun h => h hb), if_neg (show ¬ b ≠ 0 from fun h => h hb), z2 (m + 4) (m + 1)]
      by_cases hc : c = 0
      · rw [if_neg (show ¬ c ≠ 0 from fun h => h hc), z3 (m + 4) m, hc]; rfl
      · rw [if_pos hc]; rfl
    · rw [if_pos hb, if_pos hb]; rfl
  · rw [if_pos ha, if_pos ha]; rfl
theorem row_eq (K : Nat) (hK : 10 ≤ K) (a b : Edge) : deps_row K a b = some (rowC a b) := by
  unfold deps_row deps_bit rowC
  rw [compare_eq, Option.bind_some, compare_eq, Option.bind_some]
  cases a with | mk a1 a2 a3 => cases b with | mk b1 b2 b3 =>
  simp only
  by_cases h1 : a1 < b1
  · cases a3 <;> cases b3 <;> simp [h1, or_eq K hK]
  by_cases h2 : b1 < a1
  · cases a3 <;> cases b3 <;> simp [h1, h2, or_eq K hK]
  by_cases h3 : a2 < b2
  · cases a3 <;> cases b3 <;> simp [h1, h2, h3, or_eq K hK]
  by_cases h4 : b2 < a2
  · cases a3 <;> cases b3 <;> simp [h1, h2, h3, h4, or_eq K hK]
  cases a3 <;> cases b3 <;> simp [h1, h2, h3, h4, or_eq K hK] <;> rfl
theorem rowC_lt (a b : Edge) : ltOf rowC a b = true ↔ a.From < b.From ∨ (a.From = b.From ∧ (a.To < b.To ∨ (a.To = b.To ∧ a.Neg = false ∧ b.Neg = true))) := by
  unfold ltOf rowC
  rw [decide_eq_true_iff]
  cases a with | mk a1 a2 a3 => cases b with | mk b1 b2 b3 =>
  simp only
  by_cases h1 : a1 < b1
  · simp [h1]
  by_cases h2 : b1 < a1
  · simp [h1, h2]; omega
  have e1 : a1 = b1 := by omega
  by_cases h3 : a2 < b2
  · simp [h1, h2, h3, e1]
  by_cases h4 : b2 < a2
  · simp [h1, h2, h3, h4, e1]; omega
  have e2 : a2 = b2 := by omega
  subst e1 e2
  cases a3 <;> cases b3 <;> simp
theorem rowC_nlt (a b : Edge) : ltOf rowC a b = false ↔ b.From < a.From ∨ (a.From = b.From ∧ (b.To < a.To ∨ (a.To = b.To ∧ (a.Neg = true ∨ b.Neg = false)))) := by
  rw [← Bool.not_eq_true, rowC_lt]
  cases a with | mk a1 a2 a3 => cases b with | mk b1 b2 b3 =>
  simp only
  cases a3 <;> cases b3 <;> simp <;> omega
theorem rowC_swo : SWO (ltOf rowC) where
  irrefl x := by rw [rowC_nlt]; right; refine ⟨rfl, .inr ⟨rfl, ?_⟩⟩; cases x.Neg <;> simp
  trans x y z h1 h2 := by
    rw [rowC_lt] at *
    cases x with | mk a1 a2 a3 => cases y with | mk b1 b2 b3 => cases z with | mk c1 c2 c3 =>
    simp only at *
    cases a3 <;> cases b3 <;> cases c3 <;> simp at * <;> omega
  ntrans x y z h1 h2 := by
    rw [rowC_nlt] at *
    cases x with | mk a1 a2 a3 => cases y with | mk b1 b2 b3 => cases z with | mk c1 c2 c3 =>
    simp only at *
    cases a3 <;> cases b3 <;> cases c3 <;> simp at * <;> omega
theorem rowC_anti (x y : Edge) (h1 : ltOf rowC x y = false) (h2 : ltOf rowC y x = false) : x = y := by
  rw [rowC_nlt] at *
  cases x with | mk a1 a2 a3 => cases y with | mk b1 b2 b3 =>
  simp only [Edge.mk.injEq] at *
  cases a3 <;> cases b3 <;> simp at * <;> omega
end Go.Proofs.Ytpjhcllohagjoaa
