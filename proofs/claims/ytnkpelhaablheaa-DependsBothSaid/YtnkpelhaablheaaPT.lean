/-
  Tools for loops that ask each and may leave early. Own work; no claim stands here.
-/
import Derived.Test.YtnkpelhaablheaaPA
namespace Go.Proofs.Ytnkpelhaablheaa
open S
set_option linter.unusedVariables false

/-- The first answer among B i, B (i+1) .. B (n-1). -/
def firstOf {ρ : Type} (B : Nat → Option ρ) : Nat → Nat → Option ρ
  | 0, _ => none
  | k + 1, i => match B i with | some r => some r | none => firstOf B k (i + 1)
theorem firstOf_none {ρ : Type} {B : Nat → Option ρ} : ∀ {k i : Nat}, firstOf B k i = none ↔ ∀ j, i ≤ j → j < i + k → B j = none
  | 0, i => ⟨fun _ j h1 h2 => by omega, fun _ => rfl⟩
  | k + 1, i => by
    unfold firstOf
    constructor
    · intro h j h1 h2
      split at h
      · cases h
      · rename_i hb
        rcases Nat.eq_or_lt_of_le h1 with rfl | h1
        · exact hb
        · exact firstOf_none.1 h j (by omega) (by omega)
    · intro h
      rw [h i (Nat.le_refl _) (by omega)]
      exact firstOf_none.2 fun j h1 h2 => h j (by omega) (by omega)
theorem firstOf_some {ρ : Type} {B : Nat → Option ρ} {r : ρ} : ∀ {k i : Nat}, firstOf B k i = some r → ∃ j, i ≤ j ∧ j < i + k ∧ B j = some r ∧ ∀ q, i ≤ q → q < j → B q = none
  | 0, i, h => by cases h
  | k + 1, i, h => by
    unfold firstOf at h
    split at h
    · rename_i hb; cases h; exact ⟨i, Nat.le_refl _, by omega, hb, fun q h1 h2 => by omega⟩
    · rename_i hb
      obtain ⟨j, h1, h2, h3, h4⟩ := firstOf_some h
      exact ⟨j, by omega, by omega, h3, fun q q1 q2 => by
        rcases Nat.eq_or_lt_of_le q1 with rfl | q1
        · exact hb
        · exact h4 q (by omega) q2⟩
/-- A loop over an index, whose rounds may leave with an answer. -/
theorem scan {ρ : Type} (n : Nat) (L : Nat → Int → Option (Int ⊕ ρ)) (B : Nat → Option ρ)
    (step : ∀ m i, i < n → L (m + 1) (i : Int) = match B i with | some r => some (.inr r) | none => L m ((i : Int) + 1))
    (stop : ∀ m, L (m + 1) (n : Int) = some (.inl (n : Int))) : ∀ k i m, i + k = n → k < m → L m (i : Int) = some (match firstOf B k i with | some r => .inr r | none => .inl (n : Int)) := by
  intro k
  induction k with
  | zero =>
    intro i m hi hm
    obtain ⟨m, rfl⟩ : ∃ q, m = q + 1 := ⟨m - 1, by omega⟩
    have : i = n := by omega
    subst this
    exact stop m
  | succ k ih =>
    intro i m hi hm
    obtain ⟨m, rfl⟩ : ∃ q, m = q + 1 := ⟨m - 1, by omega⟩
    rw [step m i (by omega)]
    unfold firstOf
    cases B i with
    | some r => rfl
    | none => simpa using ih (i + 1) m (by omega) (by omega)
/-- A loop with a state beside the index. -/
theorem scanS {ρ τ : Type} (n : Nat) (L : Nat → τ × Int → Option ((τ × Int) ⊕ ρ)) (B : τ → Nat → τ ⊕ ρ)
    (step : ∀ m s i, i < n → L (m + 1) (s, (i : Int)) = match B s i with | .inr r => some (.inr r) | .inl s' => L m (s', (i : Int) + 1))
    (stop : ∀ m s, L (m + 1) (s, (n : Int)) = some (.inl (s, (n : Int)))) (I : Nat → τ → Prop) (hI : ∀ s i, i < n → I i s → ∀ s', B s i = .inl s' → I (i + 1) s') :
    ∀ k i s m, i + k = n → k < m → I i s → (∃ s', L m (s, (i : Int)) = some (.inl (s', (n : Int))) ∧ I n s') ∨ ∃ r j s', L m (s, (i : Int)) = some (.inr r) ∧ i ≤ j ∧ j < n ∧ I j s' ∧ B s' j = .inr r := by
  intro k
  induction k with
  | zero =>
    intro i s m hi hm h
    obtain ⟨m, rfl⟩ : ∃ q, m = q + 1 := ⟨m - 1, by omega⟩
    have : i = n := by omega
    subst this
    exact .inl ⟨s, stop m s, h⟩
  | succ k ih =>
    intro i s m hi hm h
    obtain ⟨m, rfl⟩ : ∃ q, m = q + 1 := ⟨m - 1, by omega⟩
    rw [step m s i (by omega)]
    cases hb : B s i with
    | inr r => exact .inr ⟨r, i, s, rfl, Nat.le_refl _, by omega, h, hb⟩
    | inl s' =>
      rcases ih (i + 1) s' m (by omega) (by omega) (hI s i (by omega) h s' hb) with ⟨s2, h1, h2⟩ | ⟨r, j, s2, h1, h2, h3, h4, h5⟩
      · exact .inl ⟨s2, by simpa using h1, h2⟩
      · exact .inr ⟨r, j, s2, by simpa using h1, by omega, h3, h4, h5⟩
end Go.Proofs.Ytnkpelhaablheaa
