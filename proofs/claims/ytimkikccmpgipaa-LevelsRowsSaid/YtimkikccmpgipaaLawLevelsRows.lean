/-
  The law templelaw8.LevelsRows answers true, whatever its arguments; they read behind the call as they did before. No conditions beyond the given row's.
-/
import Derived.Test.YtimkikccmpgipaaSR
import Derived.Test.YtimkikccmpgipaaPLaw8e
import Derived.Test.YtimkikccmpgipaaFF
namespace Go.Proofs.Ytimkikccmpgipaa.levelsRows
open S Go.RowKit
set_option linter.unusedVariables false
theorem co3 : Try.prog.cellsOf 3 = 1 := by kernel_rfl
theorem bo3 : Try.prog.bytesOf 3 = 8 := by kernel_rfl
theorem own : ownKnob Try.prog.godebug = none := by kernel_rfl
theorem laid : laidOutB Try.prog = true := by kernel_rfl
theorem mapped : mapsRowed Try.prog = true := by kernel_rfl
theorem full : ∀ t e, t < Try.prog.types.size → Try.prog.underlying t = some (.slice e) → 0 < Try.prog.cellsOf e := slices_full_of _ (by kernel_rfl)
theorem within : ∀ t ∈ ([3, 27] : List TypeId), t < Try.prog.types.size := by
  have h : ([3, 27] : List TypeId).all (fun t => decide (t < Try.prog.types.size)) = true := by kernel_rfl
  exact fun t ht => of_decide_eq_true (List.all_eq_true.1 h t ht)
set_option maxRecDepth 100000 in
theorem lifted (os : Os) (started : os.Started) (H : Type) (enc : TypeId × Value → H) :
    ReturnsInHanded {} Try.checked os 5 .any (Rows.levelsRowsSpec.pre6 enc Try.prog Try.f5 Rows.levelsRowsRow.domain false) (Rows.levelsRowsSpec.post enc Try.prog Try.f5 false true false false) := by
  refine returnsInHanded_of_change_sized (C := Try.checked) own started (by kernel_rfl) Try.func5
    (ChangeSpec.witness6 (enc := enc) (C := Try.checked) false ⟨#[], #[.int .i64 0, .slice none 0 0], []⟩ 8 (by kernel_rfl) (by kernel_rfl) (by kernel_rfl) (by kernel_rfl)) ?_
  intro W base args ds gs before hval hW _ hsz _
  refine law_post (kids_rows laid mapped) full (by rw [Try.params5]; exact within) (by first | exact Try.resultTypes5 | rfl) Try.underlying4 rfl (fun ds h => ?_) hval hW hsz ?_
  · rw [Try.params5] at h
    match ds, h with
    | [_, _], _ => rfl
  · rw [Try.params5]
    exact .cons (argI Try.underlying3) fun a0 w0 => .cons (argL Try.underlying27 co3 bo3 (opI Try.underlying3)) fun a1 w1 => (let ⟨K, hK⟩ := LevelsRows_holds a0 a1 w0 w1; .nil ((templelaw8_LevelsRows_ok K a0 a1) true hK))
theorem over : Rows.levelsRowsRow.holds Try.pinned (OpenSpec.ofChange Rows.levelsRowsSpec) :=
  OpenClaim.holds_of_wide 5 Try.f5 rfl rfl rfl rfl rfl rfl rfl ⟨rfl, rfl, rfl, rfl, rfl⟩ rfl rfl rfl rfl rfl (by kernel_rfl) Try.func5 (by kernel_rfl)
    (of_decide_eq_true (by kernel_rfl)) (by unfold Func.isWrapper; first | (rw [if_pos (by decide +kernel)]; kernel_rfl) | (rw [if_neg (by decide +kernel)]; exact ⟨rfl, rfl⟩))
    (fun os started H enc _ => lifted os started H enc)
end Go.Proofs.Ytimkikccmpgipaa.levelsRows
namespace Go.Proofs.Ytimkikccmpgipaa
/-- The row, under a short name, for the claim. -/
theorem levelsRows_holds : Rows.LevelsRowsSaid := levelsRows.over
#print axioms levelsRows_holds
end Go.Proofs.Ytimkikccmpgipaa
