/-
  The law templelaw9.Emptys answers true, whatever its arguments; they read behind the call as they did before. No conditions beyond the given row's.
-/
import Derived.Test.YtflbjhfklhidjaaSR
import Derived.Test.YtflbjhfklhidjaaPTab
import Derived.Test.YtflbjhfklhidjaaFF
namespace Go.Proofs.Ytflbjhfklhidjaa.emptys
open S Go.RowKit
set_option linter.unusedVariables false
theorem co3 : Try.prog.cellsOf 3 = 1 := by kernel_rfl
theorem co22 : Try.prog.cellsOf 22 = 1 := by kernel_rfl
theorem co9 : Try.prog.cellsOf 9 = 1 := by kernel_rfl
theorem bo9 : Try.prog.bytesOf 9 = 16 := by kernel_rfl
theorem co23 : Try.prog.cellsOf 23 = 1 := by kernel_rfl
theorem co40 : Try.prog.cellsOf 40 = 2 := by kernel_rfl
theorem bo40 : Try.prog.bytesOf 40 = 32 := by kernel_rfl
theorem co38 : Try.prog.cellsOf 38 = 1 := by kernel_rfl
theorem co43 : Try.prog.cellsOf 43 = 2 := by kernel_rfl
theorem bo43 : Try.prog.bytesOf 43 = 32 := by kernel_rfl
theorem co4 : Try.prog.cellsOf 4 = 1 := by kernel_rfl
theorem co41 : Try.prog.cellsOf 41 = 1 := by kernel_rfl
theorem co45 : Try.prog.cellsOf 45 = 3 := by kernel_rfl
theorem bo45 : Try.prog.bytesOf 45 = 24 := by kernel_rfl
theorem op45 {H : Type} {enc : TypeId × Value → H} {W : World} : Opn enc Try.prog W 45 cSymbol wfSymbol := fun n cs x h hw => by
  obtain ⟨hl, m, hf⟩ := struct_parts Try.underlying45 h hw
  obtain ⟨x0, p0, w0⟩ := struct_get hf 0 rfl rfl rfl co3 (opI Try.underlying3)
  obtain ⟨x1, p1, w1⟩ := struct_get hf 1 rfl rfl rfl co3 (opI Try.underlying3)
  obtain ⟨x2, p2, w2⟩ := struct_get hf 2 rfl rfl rfl co3 (opI Try.underlying3)
  exact ⟨⟨x0, x1, x2⟩, AllP.piece p0 (.piece p1 (.piece p2 (.stop (hl.trans co45)))), w0, w1, w2⟩
theorem op43 {H : Type} {enc : TypeId × Value → H} {W : World} : Opn enc Try.prog W 43 cConjunct wfConjunct := fun n cs x h hw => by
  obtain ⟨hl, m, hf⟩ := struct_parts Try.underlying43 h hw
  obtain ⟨x0, p0, w0⟩ := struct_get hf 0 rfl rfl rfl co4 (opB Try.underlying4)
  obtain ⟨x1, p1, w1⟩ := struct_get hf 1 rfl rfl rfl co41 (opL Try.underlying41 co45 bo45 op45)
  exact ⟨⟨x0, x1⟩, AllP.piece p0 (.piece p1 (.stop (hl.trans co43))), w0, w1⟩
theorem op40 {H : Type} {enc : TypeId × Value → H} {W : World} : Opn enc Try.prog W 40 cRule wfRule := fun n cs x h hw => by
  obtain ⟨hl, m, hf⟩ := struct_parts Try.underlying40 h hw
  obtain ⟨x0, p0, w0⟩ := struct_get hf 0 rfl rfl rfl co3 (opI Try.underlying3)
  obtain ⟨x1, p1, w1⟩ := struct_get hf 1 rfl rfl rfl co38 (opL Try.underlying38 co43 bo43 op43)
  exact ⟨⟨x0, x1⟩, AllP.piece p0 (.piece p1 (.stop (hl.trans co40))), w0, w1⟩
theorem co25 : Try.prog.cellsOf 25 = 3 := by kernel_rfl
theorem op25 {H : Type} {enc : TypeId × Value → H} {W : World} : Opn enc Try.prog W 25 cGrammar wfGrammar := fun n cs x h hw => by
  obtain ⟨hl, m, hf⟩ := struct_parts Try.underlying25 h hw
  obtain ⟨x0, p0, w0⟩ := struct_get hf 0 rfl rfl rfl co3 (opI Try.underlying3)
  obtain ⟨x1, p1, w1⟩ := struct_get hf 1 rfl rfl rfl co22 (opL Try.underlying22 co9 bo9 (opS Try.underlying9))
  obtain ⟨x2, p2, w2⟩ := struct_get hf 2 rfl rfl rfl co23 (opL Try.underlying23 co40 bo40 op40)
  exact ⟨⟨x0, x1, x2⟩, AllP.piece p0 (.piece p1 (.piece p2 (.stop (hl.trans co25)))), w0, w1, w2⟩
theorem own : ownKnob Try.prog.godebug = none := by kernel_rfl
theorem laid : laidOutB Try.prog = true := by kernel_rfl
theorem mapped : mapsRowed Try.prog = true := by kernel_rfl
theorem full : ∀ t e, t < Try.prog.types.size → Try.prog.underlying t = some (.slice e) → 0 < Try.prog.cellsOf e := slices_full_of _ (by kernel_rfl)
theorem within : ∀ t ∈ ([25] : List TypeId), t < Try.prog.types.size := by
  have h : ([25] : List TypeId).all (fun t => decide (t < Try.prog.types.size)) = true := by kernel_rfl
  exact fun t ht => of_decide_eq_true (List.all_eq_true.1 h t ht)
set_option maxRecDepth 100000 in
theorem lifted (os : Os) (started : os.Started) (H : Type) (enc : TypeId × Value → H) :
    ReturnsInHanded {} Try.checked os 3 .any (Rows.emptysSpec.pre6 enc Try.prog Try.f3 Rows.emptysRow.domain false) (Rows.emptysSpec.post enc Try.prog Try.f3 false true false false) := by
  refine returnsInHanded_of_change_sized (C := Try.checked) own started (by kernel_rfl) Try.func3
    (ChangeSpec.witness6 (enc := enc) (C := Try.checked) false ⟨#[], #[.agg #[.int .i64 0, .slice none 0 0, .slice none 0 0]], []⟩ 8 (by kernel_rfl) (by kernel_rfl) (by kernel_rfl) (by kernel_rfl)) ?_
  intro W base args ds gs before hval hW _ hsz _
  refine law_post (kids_rows laid mapped) full (by rw [Try.params3]; exact within) (by first | exact Try.resultTypes3 | rfl) Try.underlying4 rfl (fun ds h => ?_) hval hW hsz ?_
  · rw [Try.params3] at h
    match ds, h with
    | [_], _ => rfl
  · rw [Try.params3]
    exact .cons (argA Try.underlying25 op25) fun a0 w0 => (let ⟨K, hK⟩ := Emptys_holds a0 w0; .nil ((templelaw9_Emptys_ok K a0) true hK))
theorem over : Rows.emptysRow.holds Try.pinned (OpenSpec.ofChange Rows.emptysSpec) :=
  OpenClaim.holds_of_wide 3 Try.f3 rfl rfl rfl rfl rfl rfl rfl ⟨rfl, rfl, rfl, rfl, rfl⟩ rfl rfl rfl rfl rfl (by kernel_rfl) Try.func3 (by kernel_rfl)
    (of_decide_eq_true (by kernel_rfl)) (by unfold Func.isWrapper; first | (rw [if_pos (by decide +kernel)]; kernel_rfl) | (rw [if_neg (by decide +kernel)]; exact ⟨rfl, rfl⟩))
    (fun os started H enc _ => lifted os started H enc)
end Go.Proofs.Ytflbjhfklhidjaa.emptys
namespace Go.Proofs.Ytflbjhfklhidjaa
/-- The row, under a short name, for the claim. -/
theorem emptys_holds : Rows.EmptysSaid := emptys.over
#print axioms emptys_holds
end Go.Proofs.Ytflbjhfklhidjaa
