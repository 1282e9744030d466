/-
  The law WeighForms, in plain Lean: rows of unlike lengths and numbers that are too great are refused. Own work; no claim stands here.
-/
import Derived.Test.YtbdlnjbioepmhaaPLaw23b
namespace Go.Proofs.Ytbdlnjbioepmhaa
open S
set_option linter.unusedVariables false
set_option maxRecDepth 100000

theorem bind_mid {α β : Type} {o : Option α} {k : α → Option β} {r : Option β} (Q : α → Prop) (h1 : ∃ a, o = some a ∧ Q a) (h2 : ∀ a, Q a → k a = r) : o.bind k = r := by
  obtain ⟨a, rfl, h⟩ := h1
  exact h2 a h

theorem notDot {a b : List Gauss} (h : ∃ z ∈ a, ¬ Sm z) : ¬ DotOk a b := fun ⟨_, _, h1, _⟩ => by obtain ⟨z, hz, hn⟩ := h; exact hn (h1 z hz)
theorem notDot' {a b : List Gauss} (h : ∃ z ∈ b, ¬ Sm z) : ¬ DotOk a b := fun ⟨_, _, _, h1⟩ => by obtain ⟨z, hz, hn⟩ := h; exact hn (h1 z hz)
theorem notDotL {a b : List Gauss} (h : a.length ≠ b.length) : ¬ DotOk a b := fun ⟨h1, _⟩ => h h1

theorem WeighForms_true (which x : Int) : templelaw23_WeighForms 5000 which x = some true := by
  obtain ⟨d, hd1, hd2, hd⟩ : ∃ d : Int, 1 ≤ d ∧ d ≤ 1024 ∧ IntKind.wrap .i64 (1 + iand .i64 x 1023) = d := ⟨1 + x % 1024, by omega, by omega, by rw [and1023, wr (by omega) (by omega)]⟩
  have w1 : IntKind.wrap .i64 (1000 + d) = 1000 + d := wr (by omega) (by omega)
  have w2 : IntKind.wrap .i64 ((-1000) - d) = -1000 - d := wr (by omega) (by omega)
  have w3 : IntKind.wrap .i64 (100 + d) = 100 + d := wr (by omega) (by omega)
  have w4 : IntKind.wrap .i64 (4096 + d) = 4096 + d := wr (by omega) (by omega)
  have w5 : IntKind.wrap .i64 (-d) = -d := wr (by omega) (by omega)
  unfold templelaw23_WeighForms
  rw [awake23]
  simp only [Option.bind_some, hd, w1, w2, w3, w4, w5, Bool.not_true, Bool.false_eq_true, if_false]
  rw [if_pos (by decide)]
  have hl : ((List.replicate (3 : Int).toNat (zGauss : Gauss)).length : Int) = 3 := rfl
  have hr : List.replicate (3 : Int).toNat (zGauss : Gauss) = [zGauss, zGauss, zGauss] := rfl
  refine bind_mid (fun q => ¬ DotOk q.2 q.1) ?_ ?_
  · simp only [hl]
    split
    · rw [if_pos (by decide)]
      exact ⟨_, rfl, notDotL (by decide)⟩
    split
    · rw [if_pos (by decide)]
      refine ⟨_, rfl, notDot ⟨(⟨1000 + d, 0⟩ : Gauss), List.mem_of_getElem? (i := 1) rfl, fun h => ?_⟩⟩
      have := h.1.2; simp at this; omega
    split
    · rw [if_pos (by decide)]
      refine ⟨_, rfl, notDot ⟨(⟨0, -1000 - d⟩ : Gauss), List.mem_of_getElem? (i := 2) rfl, fun h => ?_⟩⟩
      have := h.2.1; simp at this; omega
    split
    · rw [if_pos (by decide)]
      refine ⟨_, rfl, notDot' ⟨(⟨0, 1000 + d⟩ : Gauss), List.mem_of_getElem? (i := 0) rfl, fun h => ?_⟩⟩
      have := h.2.2; simp at this; omega
    split
    · rw [if_pos (by decide)]
      refine ⟨_, rfl, notDot' ⟨(⟨-1000 - d, 0⟩ : Gauss), List.mem_of_getElem? (i := 2) rfl, fun h => ?_⟩⟩
      have := h.1.1; simp at this; omega
    split
    · rw [if_pos (by omega), if_pos (by omega)]
      refine ⟨_, rfl, fun ⟨_, h, _⟩ => ?_⟩
      simp at h; omega
    · exact ⟨_, rfl, notDotL (by decide)⟩
  · rintro ⟨xs, a⟩ hn
    simp only at hn
    obtain ⟨_, h⟩ | ⟨h, _⟩ := Dot_spec a xs 5000 (by decide)
    case inr => exact absurd h hn
    have t1 : weigh_Tree 5000 ([(⟨(0 : Int), 0, (0 : Int), (0 : Int), (0 : Int)⟩ : Branch), (⟨(0 : Int), -d, (0 : Int), (0 : Int), (0 : Int)⟩ : Branch)] : List Branch) ([1] : List Int) = some (⟨0, 0⟩, 2300) := by
      obtain ⟨_, h⟩ | ⟨h, _⟩ := Tree_spec ([(⟨(0 : Int), 0, (0 : Int), (0 : Int), (0 : Int)⟩ : Branch), (⟨(0 : Int), -d, (0 : Int), (0 : Int), (0 : Int)⟩ : Branch)] : List Branch) ([1] : List Int) 5000 (by decide) (by decide)
      · exact h
      · have := h.2 (⟨(0 : Int), -d, (0 : Int), (0 : Int), (0 : Int)⟩ : Branch) (by simp)
        simp at this; omega
    have t2 : weigh_Tree 5000 (List.replicate (4096 + d).toNat (zBranch : Branch)) [] = some (⟨0, 0⟩, 2300) := by
      obtain ⟨_, h⟩ | ⟨h, _⟩ := Tree_spec (List.replicate (4096 + d).toNat (zBranch : Branch)) [] 5000 (by decide) (by decide)
      · exact h
      · have := h.1
        simp at this; omega
    have t3 : weigh_Tree 5000 (List.replicate (4096 : Int).toNat (zBranch : Branch)) ([1] : List Int) = some (⟨1, 0⟩, 0) := by
      obtain ⟨h, _⟩ | ⟨_, h⟩ := Tree_spec (List.replicate (4096 : Int).toNat (zBranch : Branch)) ([1] : List Int) 5000 (by decide) (by decide)
      · refine absurd ⟨?_, ?_⟩ h
        · simp
        · intro b hb
          rw [(List.mem_replicate.1 hb).2]; exact Int.le_refl _
      · rw [h]
        have he : exs [1] (List.replicate (4096 : Int).toNat (zBranch : Branch)) = 4096 := by
          unfold exs
          rw [List.map_replicate, List.sum_replicate_int]
          rfl
        rw [he]; rfl
    simp only [h, t1, t2, t3, Option.bind_some]
    rw [if_pos (by omega), if_pos (by omega), if_pos (by decide)]
    simp [templelaw0_Num]
    try decide

theorem WeighForms_holds (which x : Int) : ∃ K, templelaw23_WeighForms K which x = some true := ⟨5000, WeighForms_true which x⟩
#print axioms WeighForms_holds
end Go.Proofs.Ytbdlnjbioepmhaa
