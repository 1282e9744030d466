/-
  The law templelaw23.WeighTurned answers true, whatever its arguments; they read behind the call as they did before. No conditions beyond the given row's.
-/
import Derived.Test.YtbdlnjbioepmhaaSR
import Derived.Test.YtbdlnjbioepmhaaPLaw23b
namespace Go.Proofs.Ytbdlnjbioepmhaa.weighTurned
open S Go.RowKit
set_option linter.unusedVariables false
theorem co23 : Try.prog.cellsOf 23 = 2 := by kernel_rfl
theorem bo23 : Try.prog.bytesOf 23 = 16 := by kernel_rfl
theorem co3 : Try.prog.cellsOf 3 = 1 := by kernel_rfl
def wfGauss (x : Gauss) : Prop := (wfI .i64) x.Re ∧ (wfI .i64) x.Im
theorem op23 {H : Type} {enc : TypeId × Value → H} {W : World} : Opn enc Try.prog W 23 cGauss wfGauss := fun n cs x h hw => by
  obtain ⟨hl, m, hf⟩ := struct_parts Try.underlying23 h hw
  obtain ⟨x0, p0, w0⟩ := struct_get hf 0 rfl rfl rfl co3 (opI Try.underlying3)
  obtain ⟨x1, p1, w1⟩ := struct_get hf 1 rfl rfl rfl co3 (opI Try.underlying3)
  exact ⟨⟨x0, x1⟩, AllP.piece p0 (.piece p1 (.stop (hl.trans co23))), w0, w1⟩
theorem own : ownKnob Try.prog.godebug = none := by kernel_rfl
theorem laid : laidOutB Try.prog = true := by kernel_rfl
theorem mapped : mapsRowed Try.prog = true := by kernel_rfl
theorem full : ∀ t e, t < Try.prog.types.size → Try.prog.underlying t = some (.slice e) → 0 < Try.prog.cellsOf e := slices_full_of _ (by kernel_rfl)
theorem within : ∀ t ∈ ([26, 26, 3] : List TypeId), t < Try.prog.types.size := by
  have h : ([26, 26, 3] : List TypeId).all (fun t => decide (t < Try.prog.types.size)) = true := by kernel_rfl
  exact fun t ht => of_decide_eq_true (List.all_eq_true.1 h t ht)
set_option maxRecDepth 100000 in
theorem lifted (os : Os) (started : os.Started) (H : Type) (enc : TypeId × Value → H) :
    ReturnsInHanded {} Try.checked os 9 .any (Rows.weighTurnedSpec.pre6 enc Try.prog Try.f9 Rows.weighTurnedRow.domain false) (Rows.weighTurnedSpec.post enc Try.prog Try.f9 false true false false) := by
  refine returnsInHanded_of_change_sized (C := Try.checked) own started (by kernel_rfl) Try.func9
    (ChangeSpec.witness6 (enc := enc) (C := Try.checked) false ⟨#[], #[.slice none 0 0, .slice none 0 0, .int .i64 0], []⟩ 8 (by kernel_rfl) (by kernel_rfl) (by kernel_rfl) (by kernel_rfl)) ?_
  intro W base args ds gs before hval hW _ hsz _
  refine law_post (kids_rows laid mapped) full (by rw [Try.params9]; exact within) (by first | exact Try.resultTypes9 | rfl) Try.underlying4 rfl (fun ds h => ?_) hval hW hsz ?_
  · rw [Try.params9] at h
    match ds, h with
    | [_, _, _], _ => rfl
  · rw [Try.params9]
    exact .cons (argL Try.underlying26 co23 bo23 op23) fun a0 w0 => .cons (argL Try.underlying26 co23 bo23 op23) fun a1 w1 => .cons (argI Try.underlying3) fun a2 w2 => (let ⟨K, hK⟩ := WeighTurned_holds a0 a1 a2; .nil ((templelaw23_WeighTurned_ok K a0 a1 a2) true hK))
theorem over : Rows.weighTurnedRow.holds Try.pinned (OpenSpec.ofChange Rows.weighTurnedSpec) :=
  OpenClaim.holds_of_wide 9 Try.f9 rfl rfl rfl rfl rfl rfl rfl ⟨rfl, rfl, rfl, rfl, rfl⟩ rfl rfl rfl rfl rfl (by kernel_rfl) Try.func9 (by kernel_rfl)
    (of_decide_eq_true (by kernel_rfl)) (by unfold Func.isWrapper; first | (rw [if_pos (by decide +kernel)]; kernel_rfl) | (rw [if_neg (by decide +kernel)]; exact ⟨rfl, rfl⟩))
    (fun os started H enc _ => lifted os started H enc)
end Go.Proofs.Ytbdlnjbioepmhaa.weighTurned
namespace Go.Proofs.Ytbdlnjbioepmhaa
/-- The row, under a short name, for the claim. -/
theorem weighTurned_holds : Rows.WeighTurnedSaid := weighTurned.over
#print axioms weighTurned_holds
end Go.Proofs.Ytbdlnjbioepmhaa
