/-
  The law templelaw23.Weighs answers true, whatever its arguments; they read behind the call as they did before. No conditions beyond the given row's.
-/
import Derived.Test.YtbdlnjbioepmhaaSR
import Derived.Test.YtbdlnjbioepmhaaPLaw23c
namespace Go.Proofs.Ytbdlnjbioepmhaa.weighs
open S Go.RowKit
set_option linter.unusedVariables false
theorem co3 : Try.prog.cellsOf 3 = 1 := by kernel_rfl
def wfGauss (x : Gauss) : Prop := (wfI .i64) x.Re ∧ (wfI .i64) x.Im
theorem co23 : Try.prog.cellsOf 23 = 2 := by kernel_rfl
theorem op23 {H : Type} {enc : TypeId × Value → H} {W : World} : Opn enc Try.prog W 23 cGauss wfGauss := fun n cs x h hw => by
  obtain ⟨hl, m, hf⟩ := struct_parts Try.underlying23 h hw
  obtain ⟨x0, p0, w0⟩ := struct_get hf 0 rfl rfl rfl co3 (opI Try.underlying3)
  obtain ⟨x1, p1, w1⟩ := struct_get hf 1 rfl rfl rfl co3 (opI Try.underlying3)
  exact ⟨⟨x0, x1⟩, AllP.piece p0 (.piece p1 (.stop (hl.trans co23))), w0, w1⟩
theorem co50 : Try.prog.cellsOf 50 = 5 := by kernel_rfl
theorem bo50 : Try.prog.bytesOf 50 = 40 := by kernel_rfl
def wfBranch (x : Branch) : Prop := (wfI .i64) x.Name ∧ (wfI .i64) x.Rule ∧ (wfI .i64) x.I ∧ (wfI .i64) x.J ∧ (wfI .i64) x.Kids
theorem op50 {H : Type} {enc : TypeId × Value → H} {W : World} : Opn enc Try.prog W 50 cBranch wfBranch := fun n cs x h hw => by
  obtain ⟨hl, m, hf⟩ := struct_parts Try.underlying50 h hw
  obtain ⟨x0, p0, w0⟩ := struct_get hf 0 rfl rfl rfl co3 (opI Try.underlying3)
  obtain ⟨x1, p1, w1⟩ := struct_get hf 1 rfl rfl rfl co3 (opI Try.underlying3)
  obtain ⟨x2, p2, w2⟩ := struct_get hf 2 rfl rfl rfl co3 (opI Try.underlying3)
  obtain ⟨x3, p3, w3⟩ := struct_get hf 3 rfl rfl rfl co3 (opI Try.underlying3)
  obtain ⟨x4, p4, w4⟩ := struct_get hf 4 rfl rfl rfl co3 (opI Try.underlying3)
  exact ⟨⟨x0, x1, x2, x3, x4⟩, AllP.piece p0 (.piece p1 (.piece p2 (.piece p3 (.piece p4 (.stop (hl.trans co50)))))), w0, w1, w2, w3, w4⟩
theorem bo3 : Try.prog.bytesOf 3 = 8 := by kernel_rfl
theorem bo23 : Try.prog.bytesOf 23 = 16 := by kernel_rfl
theorem own : ownKnob Try.prog.godebug = none := by kernel_rfl
theorem laid : laidOutB Try.prog = true := by kernel_rfl
theorem mapped : mapsRowed Try.prog = true := by kernel_rfl
theorem full : ∀ t e, t < Try.prog.types.size → Try.prog.underlying t = some (.slice e) → 0 < Try.prog.cellsOf e := slices_full_of _ (by kernel_rfl)
theorem within : ∀ t ∈ ([3, 23, 24, 25, 26, 26] : List TypeId), t < Try.prog.types.size := by
  have h : ([3, 23, 24, 25, 26, 26] : List TypeId).all (fun t => decide (t < Try.prog.types.size)) = true := by kernel_rfl
  exact fun t ht => of_decide_eq_true (List.all_eq_true.1 h t ht)
set_option maxRecDepth 100000 in
theorem lifted (os : Os) (started : os.Started) (H : Type) (enc : TypeId × Value → H) :
    ReturnsInHanded {} Try.checked os 3 .any (Rows.weighsSpec.pre6 enc Try.prog Try.f3 Rows.weighsRow.domain false) (Rows.weighsSpec.post enc Try.prog Try.f3 false true false false) := by
  refine returnsInHanded_of_change_sized (C := Try.checked) own started (by kernel_rfl) Try.func3
    (ChangeSpec.witness6 (enc := enc) (C := Try.checked) false ⟨#[], #[.int .i64 0, .agg #[.int .i64 0, .int .i64 0], .slice none 0 0, .slice none 0 0, .slice none 0 0, .slice none 0 0], []⟩ 8 (by kernel_rfl) (by kernel_rfl) (by kernel_rfl) (by kernel_rfl)) ?_
  intro W base args ds gs before hval hW _ hsz _
  refine law_post (kids_rows laid mapped) full (by rw [Try.params3]; exact within) (by first | exact Try.resultTypes3 | rfl) Try.underlying4 rfl (fun ds h => ?_) hval hW hsz ?_
  · rw [Try.params3] at h
    match ds, h with
    | [_, _, _, _, _, _], _ => rfl
  · rw [Try.params3]
    exact .cons (argI Try.underlying3) fun a0 w0 => .cons (argA Try.underlying23 op23) fun a1 w1 => .cons (argL Try.underlying24 co50 bo50 op50) fun a2 w2 => .cons (argL Try.underlying25 co3 bo3 (opI Try.underlying3)) fun a3 w3 => .cons (argL Try.underlying26 co23 bo23 op23) fun a4 w4 => .cons (argL Try.underlying26 co23 bo23 op23) fun a5 w5 => (let ⟨K, hK⟩ := Weighs_true a0 a1 a2 a3 a4 a5 w2.1 w3.1 w4.1 w5.1; .nil ((templelaw23_Weighs_ok K a0 a1 a2 a3 a4 a5) true hK))
theorem over : Rows.weighsRow.holds Try.pinned (OpenSpec.ofChange Rows.weighsSpec) :=
  OpenClaim.holds_of_wide 3 Try.f3 rfl rfl rfl rfl rfl rfl rfl ⟨rfl, rfl, rfl, rfl, rfl⟩ rfl rfl rfl rfl rfl (by kernel_rfl) Try.func3 (by kernel_rfl)
    (of_decide_eq_true (by kernel_rfl)) (by unfold Func.isWrapper; first | (rw [if_pos (by decide +kernel)]; kernel_rfl) | (rw [if_neg (by decide +kernel)]; exact ⟨rfl, rfl⟩))
    (fun os started H enc _ => lifted os started H enc)
end Go.Proofs.Ytbdlnjbioepmhaa.weighs
namespace Go.Proofs.Ytbdlnjbioepmhaa
/-- The row, under a short name, for the claim. -/
theorem weighs_holds : Rows.WeighsSaid := weighs.over
#print axioms weighs_holds
end Go.Proofs.Ytbdlnjbioepmhaa
