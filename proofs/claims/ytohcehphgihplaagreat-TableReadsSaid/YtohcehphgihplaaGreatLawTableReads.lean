import Derived.Test.YtohcehphgihplaaGreatW21
namespace Go.Proofs.YtohcehphgihplaaGreat.tableReads
open S Go.RowKit
set_option linter.unusedVariables false
theorem co3:Tryz.prog.cellsOf 3=1:=by kernel_rfl
theorem co22:Tryz.prog.cellsOf 22=1:=by kernel_rfl
theorem co9:Tryz.prog.cellsOf 9=1:=by kernel_rfl
theorem bo9:Tryz.prog.bytesOf 9=16:=by kernel_rfl
theorem co23:Tryz.prog.cellsOf 23=1:=by kernel_rfl
theorem co46:Tryz.prog.cellsOf 46=2:=by kernel_rfl
theorem bo46:Tryz.prog.bytesOf 46=32:=by kernel_rfl
theorem co44:Tryz.prog.cellsOf 44=1:=by kernel_rfl
theorem co49:Tryz.prog.cellsOf 49=2:=by kernel_rfl
theorem bo49:Tryz.prog.bytesOf 49=32:=by kernel_rfl
theorem co4:Tryz.prog.cellsOf 4=1:=by kernel_rfl
theorem co47:Tryz.prog.cellsOf 47=1:=by kernel_rfl
theorem co81:Tryz.prog.cellsOf 81=3:=by kernel_rfl
theorem bo81:Tryz.prog.bytesOf 81=24:=by kernel_rfl
theorem op81 {H:Type} {enc:TypeId×Value→H} {W:World}:Opn enc Tryz.prog W 81 cSymbol mh:=fun n cs x h hw=>by
 obtain ⟨hl,m,hf⟩:=struct_parts Tryz.underlying81 h hw
 obtain ⟨x0,p0,w0⟩:=struct_get hf 0 rfl rfl rfl co3 (opI Tryz.underlying3)
 obtain ⟨x1,p1,w1⟩:=struct_get hf 1 rfl rfl rfl co3 (opI Tryz.underlying3)
 obtain ⟨x2,p2,w2⟩:=struct_get hf 2 rfl rfl rfl co3 (opI Tryz.underlying3)
 exact ⟨⟨x0,x1,x2⟩,AllP.piece p0 (.piece p1 (.piece p2 (.stop (hl.trans co81)))),w0,w1,w2⟩
theorem op49 {H:Type} {enc:TypeId×Value→H} {W:World}:Opn enc Tryz.prog W 49 cConjunct mg:=fun n cs x h hw=>by
 obtain ⟨hl,m,hf⟩:=struct_parts Tryz.underlying49 h hw
 obtain ⟨x0,p0,w0⟩:=struct_get hf 0 rfl rfl rfl co4 (opB Tryz.underlying4)
 obtain ⟨x1,p1,w1⟩:=struct_get hf 1 rfl rfl rfl co47 (opL Tryz.underlying47 co81 bo81 op81)
 exact ⟨⟨x0,x1⟩,AllP.piece p0 (.piece p1 (.stop (hl.trans co49))),w0,w1⟩
theorem op46 {H:Type} {enc:TypeId×Value→H} {W:World}:Opn enc Tryz.prog W 46 cRule ai:=fun n cs x h hw=>by
 obtain ⟨hl,m,hf⟩:=struct_parts Tryz.underlying46 h hw
 obtain ⟨x0,p0,w0⟩:=struct_get hf 0 rfl rfl rfl co3 (opI Tryz.underlying3)
 obtain ⟨x1,p1,w1⟩:=struct_get hf 1 rfl rfl rfl co44 (opL Tryz.underlying44 co49 bo49 op49)
 exact ⟨⟨x0,x1⟩,AllP.piece p0 (.piece p1 (.stop (hl.trans co46))),w0,w1⟩
theorem co25:Tryz.prog.cellsOf 25=3:=by kernel_rfl
theorem op25 {H:Type} {enc:TypeId×Value→H} {W:World}:Opn enc Tryz.prog W 25 cGrammar Gf:=fun n cs x h hw=>by
 obtain ⟨hl,m,hf⟩:=struct_parts Tryz.underlying25 h hw
 obtain ⟨x0,p0,w0⟩:=struct_get hf 0 rfl rfl rfl co3 (opI Tryz.underlying3)
 obtain ⟨x1,p1,w1⟩:=struct_get hf 1 rfl rfl rfl co22 (opL Tryz.underlying22 co9 bo9 (opS Tryz.underlying9))
 obtain ⟨x2,p2,w2⟩:=struct_get hf 2 rfl rfl rfl co23 (opL Tryz.underlying23 co46 bo46 op46)
 exact ⟨⟨x0,x1,x2⟩,AllP.piece p0 (.piece p1 (.piece p2 (.stop (hl.trans co25)))),w0,w1,w2⟩
theorem bo3:Tryz.prog.bytesOf 3=8:=by kernel_rfl
theorem own:ownKnob Tryz.prog.godebug=none:=by kernel_rfl
theorem laid:laidOutB Tryz.prog=true:=by kernel_rfl
theorem mapped:mapsRowed Tryz.prog=true:=by kernel_rfl
theorem full:∀ t e,t<Tryz.prog.types.size→Tryz.prog.underlying t=some (.slice e)→0<Tryz.prog.cellsOf e:=slices_full_of _ (by kernel_rfl)
theorem within:∀ t ∈ ([25,26]:List TypeId),t<Tryz.prog.types.size:=by
 have h:([25,26]:List TypeId).all (fun t=>decide (t<Tryz.prog.types.size))=true:=by kernel_rfl
 exact fun t ht=>of_decide_eq_true (List.all_eq_true.1 h t ht)
set_option maxRecDepth 100000 in
theorem lifted (os:Os) (started:os.Started) (H:Type) (enc:TypeId×Value→H) :
  ReturnsInHanded {} Tryz.checked os 3 .any (Rows.tableReadsSpec.pre6 enc Tryz.prog Tryz.f3 Rows.tableReadsRow.domain false) (Rows.tableReadsSpec.post enc Tryz.prog Tryz.f3 false true false false):=by
 refine returnsInHanded_of_change_sized (C:=Tryz.checked) own started (by kernel_rfl) Tryz.func3
  (ChangeSpec.witness6 (enc:=enc) (C:=Tryz.checked) false ⟨#[],#[.agg #[.int .i64 0,.slice none 0 0,.slice none 0 0],.slice none 0 0],[]⟩ 8 (by kernel_rfl) (by kernel_rfl) (by kernel_rfl) (by kernel_rfl)) ?_
 intro W base args ds gs before hval hW _ hsz _
 refine law_post (kids_rows laid mapped) full (by rw [Tryz.params3];exact within) (by first | exact Tryz.resultTypes3 | rfl) Tryz.underlying4 rfl (fun ds h=>?_) hval hW hsz ?_
 ·rw [Tryz.params3] at h
  match ds,h with
  | [_,_],_=>rfl
 ·rw [Tryz.params3]
  exact .cons (argA Tryz.underlying25 op25) fun a0 w0=>.cons (argL Tryz.underlying26 co3 bo3 (opI Tryz.underlying3)) fun a1 w1=>(let ⟨K,hK⟩:=TableReads_holds a0 a1 w0 w1;.nil ((jd K a0 a1) true hK))
theorem over:Rows.tableReadsRow.holds Tryz.pinned (OpenSpec.ofChange Rows.tableReadsSpec) :=
 OpenClaim.holds_of_wide 3 Tryz.f3 rfl rfl rfl rfl rfl rfl rfl ⟨rfl,rfl,rfl,rfl,rfl⟩ rfl rfl rfl rfl rfl (by kernel_rfl) Tryz.func3 (by kernel_rfl)
  (of_decide_eq_true (by kernel_rfl)) (by unfold Func.isWrapper;first | (rw [if_pos (by decide +kernel)];kernel_rfl) | (rw [if_neg (by decide +kernel)];exact ⟨rfl,rfl⟩))
  (fun os started H enc _=>lifted os started H enc)
end Go.Proofs.YtohcehphgihplaaGreat.tableReads
namespace Go.Proofs.YtohcehphgihplaaGreat
theorem tableReads_holds:Rows.TableReadsSaid:=tableReads.over
#print axioms tableReads_holds
end Go.Proofs.YtohcehphgihplaaGreat

