import Derived.Test.YtgmnohjaciemmaaW12
namespace Go.Proofs.Ytgmnohjaciemmaa.automataRuns
open S Go.RowKit
set_option linter.unusedVariables false
theorem co3:Try.prog.cellsOf 3=1:=by kernel_rfl
theorem co22:Try.prog.cellsOf 22=1:=by kernel_rfl
theorem co9:Try.prog.cellsOf 9=1:=by kernel_rfl
theorem bo9:Try.prog.bytesOf 9=16:=by kernel_rfl
theorem co23:Try.prog.cellsOf 23=1:=by kernel_rfl
theorem co61:Try.prog.cellsOf 61=2:=by kernel_rfl
theorem bo61:Try.prog.bytesOf 61=32:=by kernel_rfl
theorem co59:Try.prog.cellsOf 59=1:=by kernel_rfl
theorem co58:Try.prog.cellsOf 58=2:=by kernel_rfl
theorem bo58:Try.prog.bytesOf 58=32:=by kernel_rfl
theorem co4:Try.prog.cellsOf 4=1:=by kernel_rfl
theorem co56:Try.prog.cellsOf 56=1:=by kernel_rfl
theorem co51:Try.prog.cellsOf 51=3:=by kernel_rfl
theorem bo51:Try.prog.bytesOf 51=24:=by kernel_rfl
theorem op51 {H:Type} {enc:TypeId×Value→H} {W:World}:Opn enc Try.prog W 51 cSymbol Mb:=fun n cs x h hw=>by
 obtain ⟨hl,m,hf⟩:=struct_parts Try.underlying51 h hw
 obtain ⟨x0,p0,w0⟩:=struct_get hf 0 rfl rfl rfl co3 (opI Try.underlying3)
 obtain ⟨x1,p1,w1⟩:=struct_get hf 1 rfl rfl rfl co3 (opI Try.underlying3)
 obtain ⟨x2,p2,w2⟩:=struct_get hf 2 rfl rfl rfl co3 (opI Try.underlying3)
 exact ⟨⟨x0,x1,x2⟩,AllP.piece p0 (.piece p1 (.piece p2 (.stop (hl.trans co51)))),w0,w1,w2⟩
theorem op58 {H:Type} {enc:TypeId×Value→H} {W:World}:Opn enc Try.prog W 58 cConjunct jb:=fun n cs x h hw=>by
 obtain ⟨hl,m,hf⟩:=struct_parts Try.underlying58 h hw
 obtain ⟨x0,p0,w0⟩:=struct_get hf 0 rfl rfl rfl co4 (opB Try.underlying4)
 obtain ⟨x1,p1,w1⟩:=struct_get hf 1 rfl rfl rfl co56 (opL Try.underlying56 co51 bo51 op51)
 exact ⟨⟨x0,x1⟩,AllP.piece p0 (.piece p1 (.stop (hl.trans co58))),w0,w1⟩
theorem op61 {H:Type} {enc:TypeId×Value→H} {W:World}:Opn enc Try.prog W 61 cRule Vc:=fun n cs x h hw=>by
 obtain ⟨hl,m,hf⟩:=struct_parts Try.underlying61 h hw
 obtain ⟨x0,p0,w0⟩:=struct_get hf 0 rfl rfl rfl co3 (opI Try.underlying3)
 obtain ⟨x1,p1,w1⟩:=struct_get hf 1 rfl rfl rfl co59 (opL Try.underlying59 co58 bo58 op58)
 exact ⟨⟨x0,x1⟩,AllP.piece p0 (.piece p1 (.stop (hl.trans co61))),w0,w1⟩
theorem co25:Try.prog.cellsOf 25=3:=by kernel_rfl
theorem op25 {H:Type} {enc:TypeId×Value→H} {W:World}:Opn enc Try.prog W 25 cGrammar rc:=fun n cs x h hw=>by
 obtain ⟨hl,m,hf⟩:=struct_parts Try.underlying25 h hw
 obtain ⟨x0,p0,w0⟩:=struct_get hf 0 rfl rfl rfl co3 (opI Try.underlying3)
 obtain ⟨x1,p1,w1⟩:=struct_get hf 1 rfl rfl rfl co22 (opL Try.underlying22 co9 bo9 (opS Try.underlying9))
 obtain ⟨x2,p2,w2⟩:=struct_get hf 2 rfl rfl rfl co23 (opL Try.underlying23 co61 bo61 op61)
 exact ⟨⟨x0,x1,x2⟩,AllP.piece p0 (.piece p1 (.piece p2 (.stop (hl.trans co25)))),w0,w1,w2⟩
theorem own:ownKnob Try.prog.godebug=none:=by kernel_rfl
theorem laid:laidOutB Try.prog=true:=by kernel_rfl
theorem mapped:mapsRowed Try.prog=true:=by kernel_rfl
theorem full:∀ t e,t<Try.prog.types.size→Try.prog.underlying t=some (.slice e)→0<Try.prog.cellsOf e:=slices_full_of _ (by kernel_rfl)
theorem within:∀ t ∈ ([25]:List TypeId),t<Try.prog.types.size:=by
 have h:([25]:List TypeId).all (fun t=>decide (t<Try.prog.types.size))=true:=by kernel_rfl
 exact fun t ht=>of_decide_eq_true (List.all_eq_true.1 h t ht)
set_option maxRecDepth 100000 in
theorem lifted (os:Os) (started:os.Started) (H:Type) (enc:TypeId×Value→H) :
  ReturnsInHanded {} Try.checked os 7 .any (Rows.automataRunsSpec.pre6 enc Try.prog Try.f7 Rows.automataRunsRow.domain false) (Rows.automataRunsSpec.post enc Try.prog Try.f7 false true false false):=by
 refine returnsInHanded_of_change_sized (C:=Try.checked) own started (by kernel_rfl) Try.func7
  (ChangeSpec.witness6 (enc:=enc) (C:=Try.checked) false ⟨#[],#[.agg #[.int .i64 0,.slice none 0 0,.slice none 0 0]],[]⟩ 8 (by kernel_rfl) (by kernel_rfl) (by kernel_rfl) (by kernel_rfl)) ?_
 intro W base args ds gs before hval hW _ hsz _
 refine law_post (kids_rows laid mapped) full (by rw [Try.params7];exact within) (by first | exact Try.resultTypes7 | rfl) Try.underlying4 rfl (fun ds h=>?_) hval hW hsz ?_
 ·rw [Try.params7] at h
  match ds,h with
  | [_],_=>rfl
 ·rw [Try.params7]
  exact .cons (argA Try.underlying25 op25) fun a0 w0=>(let ⟨K,hK⟩:=Runs_holds a0;.nil ((m9 K a0) true hK))
theorem over:Rows.automataRunsRow.holds Try.pinned (OpenSpec.ofChange Rows.automataRunsSpec) :=
 OpenClaim.holds_of_wide 7 Try.f7 rfl rfl rfl rfl rfl rfl rfl ⟨rfl,rfl,rfl,rfl,rfl⟩ rfl rfl rfl rfl rfl (by kernel_rfl) Try.func7 (by kernel_rfl)
  (of_decide_eq_true (by kernel_rfl)) (by unfold Func.isWrapper;first | (rw [if_pos (by decide +kernel)];kernel_rfl) | (rw [if_neg (by decide +kernel)];exact ⟨rfl,rfl⟩))
  (fun os started H enc _=>lifted os started H enc)
end Go.Proofs.Ytgmnohjaciemmaa.automataRuns
namespace Go.Proofs.Ytgmnohjaciemmaa
theorem automataRuns_holds:Rows.AutomataRunsSaid:=automataRuns.over
#print axioms automataRuns_holds
end Go.Proofs.Ytgmnohjaciemmaa

