/-
  The law templelaw8.LevelsOver answers true, whatever its arguments; they read behind the call as they did before. No conditions beyond the given row's.
-/
import Derived.Test.YtimkikccmpgipaaSR
import Derived.Test.YtimkikccmpgipaaPLaw8d
import Derived.Test.YtimkikccmpgipaaFF
namespace Go.Proofs.Ytimkikccmpgipaa.levelsOver
open S Go.RowKit
set_option linter.unusedVariables false
theorem co3 : Try.prog.cellsOf 3 = 1 := by kernel_rfl
theorem co22 : Try.prog.cellsOf 22 = 1 := by kernel_rfl
theorem co9 : Try.prog.cellsOf 9 = 1 := by kernel_rfl
theorem bo9 : Try.prog.bytesOf 9 = 16 := by kernel_rfl
theorem co23 : Try.prog.cellsOf 23 = 1 := by kernel_rfl
theorem co47 : Try.prog.cellsOf 47 = 2 := by kernel_rfl
theorem bo47 : Try.prog.bytesOf 47 = 32 := by kernel_rfl
theorem co45 : Try.prog.cellsOf 45 = 1 := by kernel_rfl
theorem co50 : Try.prog.cellsOf 50 = 2 := by kernel_rfl
theorem bo50 : Try.prog.bytesOf 50 = 32 := by kernel_rfl
theorem co4 : Try.prog.cellsOf 4 = 1 := by kernel_rfl
theorem co48 : Try.prog.cellsOf 48 = 1 := by kernel_rfl
theorem co53 : Try.prog.cellsOf 53 = 3 := by kernel_rfl
theorem bo53 : Try.prog.bytesOf 53 = 24 := by kernel_rfl
theorem op53 {H : Type} {enc : TypeId × Value → H} {W : World} : Opn enc Try.prog W 53 cSymbol wfSymbol := fun n cs x h hw => by
  obtain ⟨hl, m, hf⟩ := struct_parts Try.underlying53 h hw
  obtain ⟨x0, p0, w0⟩ := struct_get hf 0 rfl rfl rfl co3 (opI Try.underlying3)
  obtain ⟨x1, p1, w1⟩ := struct_get hf 1 rfl rfl rfl co3 (opI Try.underlying3)
  obtain ⟨x2, p2, w2⟩ := struct_get hf 2 rfl rfl rfl co3 (opI Try.underlying3)
  exact ⟨⟨x0, x1, x2⟩, AllP.piece p0 (.piece p1 (.piece p2 (.stop (hl.trans co53)))), w0, w1, w2⟩
theorem op50 {H : Type} {enc : TypeId × Value → H} {W : World} : Opn enc Try.prog W 50 cConjunct wfConjunct := fun n cs x h hw => by
  obtain ⟨hl, m, hf⟩ := struct_parts Try.underlying50 h hw
  obtain ⟨x0, p0, w0⟩ := struct_get hf 0 rfl rfl rfl co4 (opB Try.underlying4)
  obtain ⟨x1, p1, w1⟩ := struct_get hf 1 rfl rfl rfl co48 (opL Try.underlying48 co53 bo53 op53)
  exact ⟨⟨x0, x1⟩, AllP.piece p0 (.piece p1 (.stop (hl.trans co50))), w0, w1⟩
theorem op47 {H : Type} {enc : TypeId × Value → H} {W : World} : Opn enc Try.prog W 47 cRule wfRule := fun n cs x h hw => by
  obtain ⟨hl, m, hf⟩ := struct_parts Try.underlying47 h hw
  obtain ⟨x0, p0, w0⟩ := struct_get hf 0 rfl rfl rfl co3 (opI Try.underlying3)
  obtain ⟨x1, p1, w1⟩ := struct_get hf 1 rfl rfl rfl co45 (opL Try.underlying45 co50 bo50 op50)
  exact ⟨⟨x0, x1⟩, AllP.piece p0 (.piece p1 (.stop (hl.trans co47))), w0, w1⟩
theorem co25 : Try.prog.cellsOf 25 = 3 := by kernel_rfl
theorem op25 {H : Type} {enc : TypeId × Value → H} {W : World} : Opn enc Try.prog W 25 cGrammar wfGrammar := fun n cs x h hw => by
  obtain ⟨hl, m, hf⟩ := struct_parts Try.underlying25 h hw
  obtain ⟨x0, p0, w0⟩ := struct_get hf 0 rfl rfl rfl co3 (opI Try.underlying3)
  obtain ⟨x1, p1, w1⟩ := struct_get hf 1 rfl rfl rfl co22 (opL Try.underlying22 co9 bo9 (opS Try.underlying9))
  obtain ⟨x2, p2, w2⟩ := struct_get hf 2 rfl rfl rfl co23 (opL Try.underlying23 co47 bo47 op47)
  exact ⟨⟨x0, x1, x2⟩, AllP.piece p0 (.piece p1 (.piece p2 (.stop (hl.trans co25)))), w0, w1, w2⟩
theorem own : ownKnob Try.prog.godebug = none := by kernel_rfl
theorem laid : laidOutB Try.prog = true := by kernel_rfl
theorem mapped : mapsRowed Try.prog = true := by kernel_rfl
theorem full : ∀ t e, t < Try.prog.types.size → Try.prog.underlying t = some (.slice e) → 0 < Try.prog.cellsOf e := slices_full_of _ (by kernel_rfl)
theorem within : ∀ t ∈ ([25, 3, 4] : List TypeId), t < Try.prog.types.size := by
  have h : ([25, 3, 4] : List TypeId).all (fun t => decide (t < Try.prog.types.size)) = true := by kernel_rfl
  exact fun t ht => of_decide_eq_true (List.all_eq_true.1 h t ht)
set_option maxRecDepth 100000 in
theorem lifted (os : Os) (started : os.Started) (H : Type) (enc : TypeId × Value → H) :
    ReturnsInHanded {} Try.checked os 8 .any (Rows.levelsOverSpec.pre6 enc Try.prog Try.f8 Rows.levelsOverRow.domain false) (Rows.levelsOverSpec.post enc Try.prog Try.f8 false true false false) := by
  refine returnsInHanded_of_change_sized (C := Try.checked) own started (by kernel_rfl) Try.func8
    (ChangeSpec.witness6 (enc := enc) (C := Try.checked) false ⟨#[], #[.agg #[.int .i64 0, .slice none 0 0, .slice none 0 0], .int .i64 0, .bool false], []⟩ 8 (by kernel_rfl) (by kernel_rfl) (by kernel_rfl) (by kernel_rfl)) ?_
  intro W base args ds gs before hval hW _ hsz _
  refine law_post (kids_rows laid mapped) full (by rw [Try.params8]; exact within) (by first | exact Try.resultTypes8 | rfl) Try.underlying4 rfl (fun ds h => ?_) hval hW hsz ?_
  · rw [Try.params8] at h
    match ds, h with
    | [_, _, _], _ => rfl
  · rw [Try.params8]
    exact .cons (argA Try.underlying25 op25) fun a0 w0 => .cons (argI Try.underlying3) fun a1 w1 => .cons (argB Try.underlying4) fun a2 w2 => (let ⟨K, hK⟩ := LevelsOver_holds a0 a1 a2 w0 w1 w2; .nil ((templelaw8_LevelsOver_ok K a0 a1 a2) true hK))
theorem over : Rows.levelsOverRow.holds Try.pinned (OpenSpec.ofChange Rows.levelsOverSpec) :=
  OpenClaim.holds_of_wide 8 Try.f8 rfl rfl rfl rfl rfl rfl rfl ⟨rfl, rfl, rfl, rfl, rfl⟩ rfl rfl rfl rfl rfl (by kernel_rfl) Try.func8 (by kernel_rfl)
    (of_decide_eq_true (by kernel_rfl)) (by unfold Func.isWrapper; first | (rw [if_pos (by decide +kernel)]; kernel_rfl) | (rw [if_neg (by decide +kernel)]; exact ⟨rfl, rfl⟩))
    (fun os started H enc _ => lifted os started H enc)
end Go.Proofs.Ytimkikccmpgipaa.levelsOver
namespace Go.Proofs.Ytimkikccmpgipaa
/-- The row, under a short name, for the claim. -/
theorem levelsOver_holds : Rows.LevelsOverSaid := levelsOver.over
#print axioms levelsOver_holds
end Go.Proofs.Ytimkikccmpgipaa
