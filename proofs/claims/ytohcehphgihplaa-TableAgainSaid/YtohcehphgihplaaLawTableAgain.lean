import Derived.Test.YtohcehphgihplaaW14
namespace Go.Proofs.Ytohcehphgihplaa.tableAgain
open S Go.RowKit
set_option linter.unusedVariables false
theorem co3 : Try.prog.cellsOf 3 = 1 := by kernel_rfl
theorem co27 : Try.prog.cellsOf 27 = 1 := by kernel_rfl
theorem co9 : Try.prog.cellsOf 9 = 1 := by kernel_rfl
theorem bo9 : Try.prog.bytesOf 9 = 16 := by kernel_rfl
theorem co28 : Try.prog.cellsOf 28 = 1 := by kernel_rfl
theorem co44 : Try.prog.cellsOf 44 = 2 := by kernel_rfl
theorem bo44 : Try.prog.bytesOf 44 = 32 := by kernel_rfl
theorem co42 : Try.prog.cellsOf 42 = 1 := by kernel_rfl
theorem co41 : Try.prog.cellsOf 41 = 2 := by kernel_rfl
theorem bo41 : Try.prog.bytesOf 41 = 32 := by kernel_rfl
theorem co4 : Try.prog.cellsOf 4 = 1 := by kernel_rfl
theorem co39 : Try.prog.cellsOf 39 = 1 := by kernel_rfl
theorem co38 : Try.prog.cellsOf 38 = 3 := by kernel_rfl
theorem bo38 : Try.prog.bytesOf 38 = 24 := by kernel_rfl
theorem op38 {H : Type} {enc : TypeId × Value → H} {W : World} : Opn enc Try.prog W 38 cSymbol wfSymbol := fun n cs x h hw => by
  obtain ⟨hl, m, hf⟩ := struct_parts Try.underlying38 h hw
  obtain ⟨x0, p0, w0⟩ := struct_get hf 0 rfl rfl rfl co3 (opI Try.underlying3)
  obtain ⟨x1, p1, w1⟩ := struct_get hf 1 rfl rfl rfl co3 (opI Try.underlying3)
  obtain ⟨x2, p2, w2⟩ := struct_get hf 2 rfl rfl rfl co3 (opI Try.underlying3)
  exact ⟨⟨x0, x1, x2⟩, AllP.piece p0 (.piece p1 (.piece p2 (.stop (hl.trans co38)))), w0, w1, w2⟩
theorem op41 {H : Type} {enc : TypeId × Value → H} {W : World} : Opn enc Try.prog W 41 cConjunct wfConjunct := fun n cs x h hw => by
  obtain ⟨hl, m, hf⟩ := struct_parts Try.underlying41 h hw
  obtain ⟨x0, p0, w0⟩ := struct_get hf 0 rfl rfl rfl co4 (opB Try.underlying4)
  obtain ⟨x1, p1, w1⟩ := struct_get hf 1 rfl rfl rfl co39 (opL Try.underlying39 co38 bo38 op38)
  exact ⟨⟨x0, x1⟩, AllP.piece p0 (.piece p1 (.stop (hl.trans co41))), w0, w1⟩
theorem op44 {H : Type} {enc : TypeId × Value → H} {W : World} : Opn enc Try.prog W 44 cRule wfRule := fun n cs x h hw => by
  obtain ⟨hl, m, hf⟩ := struct_parts Try.underlying44 h hw
  obtain ⟨x0, p0, w0⟩ := struct_get hf 0 rfl rfl rfl co3 (opI Try.underlying3)
  obtain ⟨x1, p1, w1⟩ := struct_get hf 1 rfl rfl rfl co42 (opL Try.underlying42 co41 bo41 op41)
  exact ⟨⟨x0, x1⟩, AllP.piece p0 (.piece p1 (.stop (hl.trans co44))), w0, w1⟩
theorem co30 : Try.prog.cellsOf 30 = 3 := by kernel_rfl
theorem op30 {H : Type} {enc : TypeId × Value → H} {W : World} : Opn enc Try.prog W 30 cGrammar wfGrammar := fun n cs x h hw => by
  obtain ⟨hl, m, hf⟩ := struct_parts Try.underlying30 h hw
  obtain ⟨x0, p0, w0⟩ := struct_get hf 0 rfl rfl rfl co3 (opI Try.underlying3)
  obtain ⟨x1, p1, w1⟩ := struct_get hf 1 rfl rfl rfl co27 (opL Try.underlying27 co9 bo9 (opS Try.underlying9))
  obtain ⟨x2, p2, w2⟩ := struct_get hf 2 rfl rfl rfl co28 (opL Try.underlying28 co44 bo44 op44)
  exact ⟨⟨x0, x1, x2⟩, AllP.piece p0 (.piece p1 (.piece p2 (.stop (hl.trans co30)))), w0, w1, w2⟩
theorem own : ownKnob Try.prog.godebug = none := by kernel_rfl
theorem laid : laidOutB Try.prog = true := by kernel_rfl
theorem mapped : mapsRowed Try.prog = true := by kernel_rfl
theorem full : ∀ t e, t < Try.prog.types.size → Try.prog.underlying t = some (.slice e) → 0 < Try.prog.cellsOf e := slices_full_of _ (by kernel_rfl)
theorem within : ∀ t ∈ ([30, 9, 3] : List TypeId), t < Try.prog.types.size := by
  have h : ([30, 9, 3] : List TypeId).all (fun t => decide (t < Try.prog.types.size)) = true := by kernel_rfl
  exact fun t ht => of_decide_eq_true (List.all_eq_true.1 h t ht)
set_option maxRecDepth 100000 in
theorem lifted (os : Os) (started : os.Started) (H : Type) (enc : TypeId × Value → H) :
    ReturnsInHanded {} Try.checked os 9 .any (Rows.tableAgainSpec.pre6 enc Try.prog Try.f9 Rows.tableAgainRow.domain false) (Rows.tableAgainSpec.post enc Try.prog Try.f9 false true false false) := by
  refine returnsInHanded_of_change_sized (C := Try.checked) own started (by kernel_rfl) Try.func9
    (ChangeSpec.witness6 (enc := enc) (C := Try.checked) false ⟨#[], #[.agg #[.int .i64 0, .slice none 0 0, .slice none 0 0], .string ⟨#[]⟩, .int .i64 0], []⟩ 8 (by kernel_rfl) (by kernel_rfl) (by kernel_rfl) (by kernel_rfl)) ?_
  intro W base args ds gs before hval hW _ hsz _
  refine law_post (kids_rows laid mapped) full (by rw [Try.params9]; exact within) (by first | exact Try.resultTypes9 | rfl) Try.underlying4 rfl (fun ds h => ?_) hval hW hsz ?_
  · rw [Try.params9] at h
    match ds, h with
    | [_, _, _], _ => rfl
  · rw [Try.params9]
    exact .cons (argA Try.underlying30 op30) fun a0 w0 => .cons (argS Try.underlying9) fun a1 w1 => .cons (argI Try.underlying3) fun a2 w2 => (let ⟨K, hK⟩ := TableAgain_holds a0 a1 a2; .nil ((templelaw15_TableAgain_ok K a0 a1 a2) true hK))
theorem over : Rows.tableAgainRow.holds Try.pinned (OpenSpec.ofChange Rows.tableAgainSpec) :=
  OpenClaim.holds_of_wide 9 Try.f9 rfl rfl rfl rfl rfl rfl rfl ⟨rfl, rfl, rfl, rfl, rfl⟩ rfl rfl rfl rfl rfl (by kernel_rfl) Try.func9 (by kernel_rfl)
    (of_decide_eq_true (by kernel_rfl)) (by unfold Func.isWrapper; first | (rw [if_pos (by decide +kernel)]; kernel_rfl) | (rw [if_neg (by decide +kernel)]; exact ⟨rfl, rfl⟩))
    (fun os started H enc _ => lifted os started H enc)
end Go.Proofs.Ytohcehphgihplaa.tableAgain
namespace Go.Proofs.Ytohcehphgihplaa
theorem tableAgain_holds : Rows.TableAgainSaid := tableAgain.over
#print axioms tableAgain_holds
end Go.Proofs.Ytohcehphgihplaa

