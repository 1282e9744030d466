/-
  The law templelaw7.Components answers true, whatever its arguments; they read behind the call as they did before. No conditions beyond the given row's.
-/
import Derived.Test.YtmjhdhjijbmigaaSR
import Derived.Test.YtmjhdhjijbmigaaPLaw7e
namespace Go.Proofs.Ytmjhdhjijbmigaa.components
open S Go.RowKit
set_option linter.unusedVariables false
theorem co37 : Try.prog.cellsOf 37 = 3 := by kernel_rfl
theorem bo37 : Try.prog.bytesOf 37 = 24 := by kernel_rfl
theorem co3 : Try.prog.cellsOf 3 = 1 := by kernel_rfl
theorem co4 : Try.prog.cellsOf 4 = 1 := by kernel_rfl
def wfEdge (x : Edge) : Prop := (wfI .i64) x.From ∧ (wfI .i64) x.To ∧ wfB x.Neg
theorem op37 {H : Type} {enc : TypeId × Value → H} {W : World} : Opn enc Try.prog W 37 cEdge wfEdge := fun n cs x h hw => by
  obtain ⟨hl, m, hf⟩ := struct_parts Try.underlying37 h hw
  obtain ⟨x0, p0, w0⟩ := struct_get hf 0 rfl rfl rfl co3 (opI Try.underlying3)
  obtain ⟨x1, p1, w1⟩ := struct_get hf 1 rfl rfl rfl co3 (opI Try.underlying3)
  obtain ⟨x2, p2, w2⟩ := struct_get hf 2 rfl rfl rfl co4 (opB Try.underlying4)
  exact ⟨⟨x0, x1, x2⟩, AllP.piece p0 (.piece p1 (.piece p2 (.stop (hl.trans co37)))), w0, w1, w2⟩
theorem own : ownKnob Try.prog.godebug = none := by kernel_rfl
theorem laid : laidOutB Try.prog = true := by kernel_rfl
theorem mapped : mapsRowed Try.prog = true := by kernel_rfl
theorem full : ∀ t e, t < Try.prog.types.size → Try.prog.underlying t = some (.slice e) → 0 < Try.prog.cellsOf e := slices_full_of _ (by kernel_rfl)
theorem within : ∀ t ∈ ([3, 23, 3, 3] : List TypeId), t < Try.prog.types.size := by
  have h : ([3, 23, 3, 3] : List TypeId).all (fun t => decide (t < Try.prog.types.size)) = true := by kernel_rfl
  exact fun t ht => of_decide_eq_true (List.all_eq_true.1 h t ht)
set_option maxRecDepth 100000 in
theorem lifted (os : Os) (started : os.Started) (H : Type) (enc : TypeId × Value → H) :
    ReturnsInHanded {} Try.checked os 4 .any (Rows.componentsSpec.pre6 enc Try.prog Try.f4 Rows.componentsRow.domain false) (Rows.componentsSpec.post enc Try.prog Try.f4 false true false false) := by
  refine returnsInHanded_of_change_sized (C := Try.checked) own started (by kernel_rfl) Try.func4
    (ChangeSpec.witness6 (enc := enc) (C := Try.checked) false ⟨#[], #[.int .i64 0, .slice none 0 0, .int .i64 0, .int .i64 0], []⟩ 8 (by kernel_rfl) (by kernel_rfl) (by kernel_rfl) (by kernel_rfl)) ?_
  intro W base args ds gs before hval hW _ hsz _
  refine law_post (kids_rows laid mapped) full (by rw [Try.params4]; exact within) (by first | exact Try.resultTypes4 | rfl) Try.underlying4 rfl (fun ds h => ?_) hval hW hsz ?_
  · rw [Try.params4] at h
    match ds, h with
    | [_, _, _, _], _ => rfl
  · rw [Try.params4]
    exact .cons (argI Try.underlying3) fun a0 w0 => .cons (argL Try.underlying23 co37 bo37 op37) fun a1 w1 => .cons (argI Try.underlying3) fun a2 w2 => .cons (argI Try.underlying3) fun a3 w3 => (let ⟨K, hK⟩ := Components_true a0 a1 a2 a3 w1.1; .nil ((templelaw7_Components_ok K a0 a1 a2 a3) true hK))
theorem over : Rows.componentsRow.holds Try.pinned (OpenSpec.ofChange Rows.componentsSpec) :=
  OpenClaim.holds_of_wide 4 Try.f4 rfl rfl rfl rfl rfl rfl rfl ⟨rfl, rfl, rfl, rfl, rfl⟩ rfl rfl rfl rfl rfl (by kernel_rfl) Try.func4 (by kernel_rfl)
    (of_decide_eq_true (by kernel_rfl)) (by unfold Func.isWrapper; first | (rw [if_pos (by decide +kernel)]; kernel_rfl) | (rw [if_neg (by decide +kernel)]; exact ⟨rfl, rfl⟩))
    (fun os started H enc _ => lifted os started H enc)
end Go.Proofs.Ytmjhdhjijbmigaa.components
namespace Go.Proofs.Ytmjhdhjijbmigaa
/-- The row, under a short name, for the claim. -/
theorem components_holds : Rows.ComponentsSaid := components.over
#print axioms components_holds
end Go.Proofs.Ytmjhdhjijbmigaa
