/-
  The law templelaw18.PackTurned answers true, whatever its arguments; they read behind the call as they did before. No conditions beyond the given row's.
-/
import Derived.Test.YtokccimmgilciaaSR
import Derived.Test.YtokccimmgilciaaPLaw18b
namespace Go.Proofs.Ytokccimmgilciaa.packTurned
open S Go.RowKit
set_option linter.unusedVariables false
theorem co3 : Try.prog.cellsOf 3 = 1 := by kernel_rfl
theorem co22 : Try.prog.cellsOf 22 = 1 := by kernel_rfl
theorem co46 : Try.prog.cellsOf 46 = 10 := by kernel_rfl
theorem bo46 : Try.prog.bytesOf 46 = 96 := by kernel_rfl
theorem co4 : Try.prog.cellsOf 4 = 1 := by kernel_rfl
theorem co43 : Try.prog.cellsOf 43 = 3 := by kernel_rfl
theorem op43 {H : Type} {enc : TypeId × Value → H} {W : World} : Opn enc Try.prog W 43 cPlace wfPlace := fun n cs x h hw => by
  obtain ⟨hl, m, hf⟩ := struct_parts Try.underlying43 h hw
  obtain ⟨x0, p0, w0⟩ := struct_get hf 0 rfl rfl rfl co3 (opI Try.underlying3)
  obtain ⟨x1, p1, w1⟩ := struct_get hf 1 rfl rfl rfl co3 (opI Try.underlying3)
  obtain ⟨x2, p2, w2⟩ := struct_get hf 2 rfl rfl rfl co3 (opI Try.underlying3)
  exact ⟨⟨x0, x1, x2⟩, AllP.piece p0 (.piece p1 (.piece p2 (.stop (hl.trans co43)))), w0, w1, w2⟩
theorem co44 : Try.prog.cellsOf 44 = 1 := by kernel_rfl
theorem co49 : Try.prog.cellsOf 49 = 3 := by kernel_rfl
theorem bo49 : Try.prog.bytesOf 49 = 40 := by kernel_rfl
theorem co47 : Try.prog.cellsOf 47 = 1 := by kernel_rfl
theorem bo3 : Try.prog.bytesOf 3 = 8 := by kernel_rfl
theorem op49 {H : Type} {enc : TypeId × Value → H} {W : World} : Opn enc Try.prog W 49 cPick wfPick := fun n cs x h hw => by
  obtain ⟨hl, m, hf⟩ := struct_parts Try.underlying49 h hw
  obtain ⟨x0, p0, w0⟩ := struct_get hf 0 rfl rfl rfl co3 (opI Try.underlying3)
  obtain ⟨x1, p1, w1⟩ := struct_get hf 1 rfl rfl rfl co3 (opI Try.underlying3)
  obtain ⟨x2, p2, w2⟩ := struct_get hf 2 rfl rfl rfl co47 (opL Try.underlying47 co3 bo3 (opI Try.underlying3))
  exact ⟨⟨x0, x1, x2⟩, AllP.piece p0 (.piece p1 (.piece p2 (.stop (hl.trans co49)))), w0, w1, w2⟩
theorem op46 {H : Type} {enc : TypeId × Value → H} {W : World} : Opn enc Try.prog W 46 cNode wfNode := fun n cs x h hw => by
  obtain ⟨hl, m, hf⟩ := struct_parts Try.underlying46 h hw
  obtain ⟨x0, p0, w0⟩ := struct_get hf 0 rfl rfl rfl co4 (opB Try.underlying4)
  obtain ⟨x1, p1, w1⟩ := struct_get hf 1 rfl rfl rfl co3 (opI Try.underlying3)
  obtain ⟨x2, p2, w2⟩ := struct_get hf 2 rfl rfl rfl co3 (opI Try.underlying3)
  obtain ⟨x3, p3, w3⟩ := struct_get hf 3 rfl rfl rfl co43 op43
  obtain ⟨x4, p4, w4⟩ := struct_get hf 4 rfl rfl rfl co3 (opI Try.underlying3)
  obtain ⟨x5, p5, w5⟩ := struct_get hf 5 rfl rfl rfl co3 (opI Try.underlying3)
  obtain ⟨x6, p6, w6⟩ := struct_get hf 6 rfl rfl rfl co3 (opI Try.underlying3)
  obtain ⟨x7, p7, w7⟩ := struct_get hf 7 rfl rfl rfl co44 (opL Try.underlying44 co49 bo49 op49)
  exact ⟨⟨x0, x1, x2, x3, x4, x5, x6, x7⟩, AllP.piece p0 (.piece p1 (.piece p2 (.piece p3 (.piece p4 (.piece p5 (.piece p6 (.piece p7 (.stop (hl.trans co46))))))))), w0, w1, w2, w3, w4, w5, w6, w7⟩
theorem co24 : Try.prog.cellsOf 24 = 2 := by kernel_rfl
theorem op24 {H : Type} {enc : TypeId × Value → H} {W : World} : Opn enc Try.prog W 24 cCert wfCert := fun n cs x h hw => by
  obtain ⟨hl, m, hf⟩ := struct_parts Try.underlying24 h hw
  obtain ⟨x0, p0, w0⟩ := struct_get hf 0 rfl rfl rfl co3 (opI Try.underlying3)
  obtain ⟨x1, p1, w1⟩ := struct_get hf 1 rfl rfl rfl co22 (opL Try.underlying22 co46 bo46 op46)
  exact ⟨⟨x0, x1⟩, AllP.piece p0 (.piece p1 (.stop (hl.trans co24))), w0, w1⟩
theorem own : ownKnob Try.prog.godebug = none := by kernel_rfl
theorem laid : laidOutB Try.prog = true := by kernel_rfl
theorem mapped : mapsRowed Try.prog = true := by kernel_rfl
theorem full : ∀ t e, t < Try.prog.types.size → Try.prog.underlying t = some (.slice e) → 0 < Try.prog.cellsOf e := slices_full_of _ (by kernel_rfl)
theorem within : ∀ t ∈ ([24, 3, 3] : List TypeId), t < Try.prog.types.size := by
  have h : ([24, 3, 3] : List TypeId).all (fun t => decide (t < Try.prog.types.size)) = true := by kernel_rfl
  exact fun t ht => of_decide_eq_true (List.all_eq_true.1 h t ht)
set_option maxRecDepth 100000 in
theorem lifted (os : Os) (started : os.Started) (H : Type) (enc : TypeId × Value → H) :
    ReturnsInHanded {} Try.checked os 8 .any (Rows.packTurnedSpec.pre6 enc Try.prog Try.f8 Rows.packTurnedRow.domain false) (Rows.packTurnedSpec.post enc Try.prog Try.f8 false true false false) := by
  refine returnsInHanded_of_change_sized (C := Try.checked) own started (by kernel_rfl) Try.func8
    (ChangeSpec.witness6 (enc := enc) (C := Try.checked) false ⟨#[], #[.agg #[.int .i64 0, .slice none 0 0], .int .i64 0, .int .i64 0], []⟩ 8 (by kernel_rfl) (by kernel_rfl) (by kernel_rfl) (by kernel_rfl)) ?_
  intro W base args ds gs before hval hW _ hsz _
  refine law_post (kids_rows laid mapped) full (by rw [Try.params8]; exact within) (by first | exact Try.resultTypes8 | rfl) Try.underlying4 rfl (fun ds h => ?_) hval hW hsz ?_
  · rw [Try.params8] at h
    match ds, h with
    | [_, _, _], _ => rfl
  · rw [Try.params8]
    exact .cons (argA Try.underlying24 op24) fun a0 w0 => .cons (argI Try.underlying3) fun a1 w1 => .cons (argI Try.underlying3) fun a2 w2 => (let ⟨K, hK⟩ := PackTurned_holds a0 a1 a2 w0 w1 w2; .nil ((templelaw18_PackTurned_ok K a0 a1 a2) true hK))
theorem over : Rows.packTurnedRow.holds Try.pinned (OpenSpec.ofChange Rows.packTurnedSpec) :=
  OpenClaim.holds_of_wide 8 Try.f8 rfl rfl rfl rfl rfl rfl rfl ⟨rfl, rfl, rfl, rfl, rfl⟩ rfl rfl rfl rfl rfl (by kernel_rfl) Try.func8 (by kernel_rfl)
    (of_decide_eq_true (by kernel_rfl)) (by unfold Func.isWrapper; first | (rw [if_pos (by decide +kernel)]; kernel_rfl) | (rw [if_neg (by decide +kernel)]; exact ⟨rfl, rfl⟩))
    (fun os started H enc _ => lifted os started H enc)
end Go.Proofs.Ytokccimmgilciaa.packTurned
namespace Go.Proofs.Ytokccimmgilciaa
/-- The row, under a short name, for the claim. -/
theorem packTurned_holds : Rows.PackTurnedSaid := packTurned.over
#print axioms packTurned_holds
end Go.Proofs.Ytokccimmgilciaa
