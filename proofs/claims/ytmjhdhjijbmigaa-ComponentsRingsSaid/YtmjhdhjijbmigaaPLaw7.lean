/-
  The laws of chapter 7, in plain Lean: ComponentsForms. Own work; no claim stands here.
-/
import Derived.Test.YtmjhdhjijbmigaaF3
import Derived.Test.YtmjhdhjijbmigaaPComps2
import Derived.Test.YtmjhdhjijbmigaaSR
namespace Go.Proofs.Ytmjhdhjijbmigaa
open S
set_option linter.unusedVariables false
set_option linter.unusedSimpArgs false
set_option maxRecDepth 100000

theorem Comps_bad {names : Int} {es : List Edge} (h : ¬ May names es) (hl : es.length < 9223372036854775807) {K : Nat} (hK : 64 < K) (hK' : es.length < K) : comps_Comps K names es = some ([], 700) := by
  obtain ⟨r, h1, h2⟩ := Comps_spec names es hl K hK hK'
  rcases h2 with ⟨_, rfl⟩ | ⟨h2, _⟩
  · exact h1
  · exact absurd h2 h
theorem Reaches_is {names : Int} {es : List Edge} {a b : Int} {r : Bool} (h : r = true ↔ May names es ∧ (0 ≤ a ∧ a < names) ∧ (0 ≤ b ∧ b < names) ∧ Reach es a b) (hl : es.length < 9223372036854775807) {K : Nat} (hK : 64 < K) (hK' : es.length < K) : comps_Reaches K names es a b = some r := by
  obtain ⟨s, h1, h2⟩ := Reaches_spec names es a b hl K hK hK'
  rw [h1]
  have : s = r := by cases s <;> cases r <;> simp_all
  rw [this]
theorem Reaches_no {names : Int} {es : List Edge} {a b : Int} (h : ¬ (May names es ∧ (0 ≤ a ∧ a < names) ∧ (0 ≤ b ∧ b < names))) (hl : es.length < 9223372036854775807) {K : Nat} (hK : 64 < K) (hK' : es.length < K) : comps_Reaches K names es a b = some false :=
  Reaches_is (by simp only [Bool.false_eq_true, false_iff]; exact fun x => h ⟨x.1, x.2.1, x.2.2.1⟩) hl hK hK'

theorem awake_100 : templelaw7_awake 100 = some true := by decide +kernel
theorem awake_ok {K : Nat} (hK : 64 < K) : templelaw7_awake K = some true := by
  have h := awake_100
  unfold templelaw7_awake at h ⊢
  have a1 : comps_Comps 100 4 [⟨1, 2, false⟩, ⟨2, 1, false⟩, ⟨0, 1, false⟩] = some ([0, 1, 1, 3], 0) := by decide +kernel
  have a2 : comps_Comps 100 1 [⟨1, 2, false⟩, ⟨2, 1, false⟩, ⟨0, 1, false⟩] = some ([], 700) := by decide +kernel
  have a3 : comps_Reaches 100 4 [⟨1, 2, false⟩, ⟨2, 1, false⟩, ⟨0, 1, false⟩] 0 2 = some true := by decide +kernel
  have a4 : comps_Reaches 100 4 [⟨1, 2, false⟩, ⟨2, 1, false⟩, ⟨0, 1, false⟩] 2 0 = some false := by decide +kernel
  have a5 : comps_Reaches 100 4 [⟨1, 2, false⟩, ⟨2, 1, false⟩, ⟨0, 1, false⟩] 3 3 = some true := by decide +kernel
  have a6 : comps_Reaches 100 4 [⟨1, 2, false⟩, ⟨2, 1, false⟩, ⟨0, 1, false⟩] 4 4 = some false := by decide +kernel
  have l : ([⟨1, 2, false⟩, ⟨2, 1, false⟩, ⟨0, 1, false⟩] : List Edge).length = 3 := rfl
  rw [Comps_fuel 100 (by decide) (by decide) a1 (by decide) hK (by rw [l]; omega), Comps_fuel 100 (by decide) (by decide) a2 (by decide) hK (by rw [l]; omega), Reaches_fuel 100 (by decide) (by decide) a3 (by decide) hK (by rw [l]; omega), Reaches_fuel 100 (by decide) (by decide) a4 (by decide) hK (by rw [l]; omega), Reaches_fuel 100 (by decide) (by decide) a5 (by decide) hK (by rw [l]; omega), Reaches_fuel 100 (by decide) (by decide) a6 (by decide) hK (by rw [l]; omega)]
  simp only [Option.bind_some]
  rw [SameInts_spec _ _ (by decide) K (by simp; omega)]
  simp [templelaw0_Num]

theorem Forms_true (names x which : Int) : templelaw7_ComponentsForms 100 names x which = some true := by
  unfold templelaw7_ComponentsForms
  rw [awake_ok (by decide), and63, and31]
  simp only [Option.bind_some, Bool.not_true, Bool.false_eq_true, if_false]
  obtain ⟨hd0, hd1⟩ : 0 ≤ x % 64 ∧ x % 64 < 64 := by omega
  obtain ⟨hk0, hk1⟩ : 0 ≤ names % 32 ∧ names % 32 < 32 := by omega
  generalize x % 64 = d at *
  generalize names % 32 = k at *
  rw [wr (a := 1 + d) (by omega) (by omega), wr (a := 1 + k) (by omega) (by omega), wr (a := -(1 + d)) (by omega) (by omega), wr (a := 64 + (1 + d)) (by omega) (by omega), wr (a := 1 + k - 1) (by omega) (by omega), wr (a := 1 + k - 1 + (1 + d)) (by omega) (by omega)]
  have bad : ∀ e : Edge, ¬ ((0 ≤ e.From ∧ e.From < 1 + k) ∧ 0 ≤ e.To ∧ e.To < 1 + k) → ¬ May (1 + k) [e] := fun e h hm => h (hm.2.2 e (by simp))
  rw [Comps_bad (names := -(1 + d)) (es := []) (by intro h; have := h.1; omega) (by decide) (by decide) (by decide), Comps_bad (names := 64 + (1 + d)) (es := []) (by intro h; have := h.2.1; omega) (by decide) (by decide) (by decide)]
  have z : comps_Comps 100 0 [] = some ([], 0) := by decide +kernel
  have r1 : comps_Reaches 100 (1 + k) [] (1 + k - 1) (1 + k - 1) = some true := Reaches_is (by simp only [true_iff]; exact ⟨⟨by omega, by omega, by intro e he; simp at he⟩, by omega, by omega, .refl _⟩) (by decide) (by decide) (by decide)
  have r2 : comps_Reaches 100 (1 + k) [] (1 + k) (1 + k) = some false := Reaches_no (by omega) (by decide) (by decide) (by decide)
  have r3 : comps_Reaches 100 (1 + k) [] (-(1 + d)) 0 = some false := Reaches_no (by omega) (by decide) (by decide) (by decide)
  simp only [Option.bind_some, z, r1, r2, r3, templelaw0_Num, List.length_singleton, Int.toNat_zero, List.set_cons_zero, rd, List.getD_cons_zero]
  have c : ∀ e : Edge, ¬ ((0 ≤ e.From ∧ e.From < 1 + k) ∧ 0 ≤ e.To ∧ e.To < 1 + k) → comps_Comps 100 (1 + k) [e] = some ([], 700) ∧ comps_Reaches 100 (1 + k) [e] 0 0 = some false := fun e h =>
    ⟨Comps_bad (bad e h) (by simp) (by decide) (by simp), Reaches_no (fun h' => bad e h h'.1) (by simp) (by decide) (by simp)⟩
  obtain ⟨c1, c1'⟩ := c ⟨-(1 + d), 0, false⟩ (by simp only; omega)
  obtain ⟨c2, c2'⟩ := c ⟨1 + k - 1 + (1 + d), 0, false⟩ (by simp only; omega)
  obtain ⟨c3, c3'⟩ := c ⟨0, -(1 + d), false⟩ (by simp only; omega)
  obtain ⟨c4, c4'⟩ := c ⟨0, 1 + k - 1 + (1 + d), false⟩ (by simp only; omega)
  split
  · simp [c1, c1']
  split
  · rw [if_pos (by decide), Option.bind_some, c2]; simp [c2']
  split
  · simp [c3, c3']
  · rw [if_pos (by decide), Option.bind_some, c4]; simp [c4']
theorem Forms_holds (a0 a1 a2 : Int) (_ : wfI .i64 a0) (_ : wfI .i64 a1) (_ : wfI .i64 a2) : ∃ K, templelaw7_ComponentsForms K a0 a1 a2 = some true := ⟨100, Forms_true a0 a1 a2⟩
end Go.Proofs.Ytmjhdhjijbmigaa
