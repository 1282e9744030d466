/-
  The law templelaw16.ChartLevels answers true, whatever its arguments; they read behind the call as they did before. No conditions beyond the given row's.
-/
import Derived.Test.YtpjhcllohagjoaaSR
import Derived.Test.YtpjhcllohagjoaaPW16
namespace Go.Proofs.Ytpjhcllohagjoaa.chartLevels
open S Go.RowKit
set_option linter.unusedVariables false
theorem own : ownKnob Try.prog.godebug = none := by kernel_rfl
theorem laid : laidOutB Try.prog = true := by kernel_rfl
theorem mapped : mapsRowed Try.prog = true := by kernel_rfl
theorem full : ∀ t e, t < Try.prog.types.size → Try.prog.underlying t = some (.slice e) → 0 < Try.prog.cellsOf e := slices_full_of _ (by kernel_rfl)
theorem within : ∀ t ∈ ([3, 9] : List TypeId), t < Try.prog.types.size := by
  have h : ([3, 9] : List TypeId).all (fun t => decide (t < Try.prog.types.size)) = true := by kernel_rfl
  exact fun t ht => of_decide_eq_true (List.all_eq_true.1 h t ht)
set_option maxRecDepth 100000 in
theorem lifted (os : Os) (started : os.Started) (H : Type) (enc : TypeId × Value → H) :
    ReturnsInHanded {} Try.checked os 7 .any (Rows.chartLevelsSpec.pre6 enc Try.prog Try.f7 Rows.chartLevelsRow.domain false) (Rows.chartLevelsSpec.post enc Try.prog Try.f7 false true false false) := by
  refine returnsInHanded_of_change_sized (C := Try.checked) own started (by kernel_rfl) Try.func7
    (ChangeSpec.witness6 (enc := enc) (C := Try.checked) false ⟨#[], #[.int .i64 0, .string ⟨#[]⟩], []⟩ 8 (by kernel_rfl) (by kernel_rfl) (by kernel_rfl) (by kernel_rfl)) ?_
  intro W base args ds gs before hval hW _ hsz _
  refine law_post (kids_rows laid mapped) full (by rw [Try.params7]; exact within) (by first | exact Try.resultTypes7 | rfl) Try.underlying4 rfl (fun ds h => ?_) hval hW hsz ?_
  · rw [Try.params7] at h
    match ds, h with
    | [_, _], _ => rfl
  · rw [Try.params7]
    exact .cons (argI Try.underlying3) fun a0 w0 => .cons (argS Try.underlying9) fun a1 w1 => (let ⟨K, hK⟩ := ChartLevels_holds a0 a1; .nil ((templelaw16_ChartLevels_ok K a0 a1) true hK))
theorem over : Rows.chartLevelsRow.holds Try.pinned (OpenSpec.ofChange Rows.chartLevelsSpec) :=
  OpenClaim.holds_of_wide 7 Try.f7 rfl rfl rfl rfl rfl rfl rfl ⟨rfl, rfl, rfl, rfl, rfl⟩ rfl rfl rfl rfl rfl (by kernel_rfl) Try.func7 (by kernel_rfl)
    (of_decide_eq_true (by kernel_rfl)) (by unfold Func.isWrapper; first | (rw [if_pos (by decide +kernel)]; kernel_rfl) | (rw [if_neg (by decide +kernel)]; exact ⟨rfl, rfl⟩))
    (fun os started H enc _ => lifted os started H enc)
end Go.Proofs.Ytpjhcllohagjoaa.chartLevels
namespace Go.Proofs.Ytpjhcllohagjoaa
/-- The row, under a short name, for the claim. -/
theorem chartLevels_holds : Rows.ChartLevelsSaid := chartLevels.over
#print axioms chartLevels_holds
end Go.Proofs.Ytpjhcllohagjoaa
