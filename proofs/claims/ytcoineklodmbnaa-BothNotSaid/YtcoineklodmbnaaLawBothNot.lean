import Derived.Test.YtcoineklodmbnaaW14
namespace Go.Proofs.Ytcoineklodmbnaa.bothNot
open S Go.RowKit
set_option linter.unusedVariables false
theorem co3:Try.prog.cellsOf 3=1:=by kernel_rfl
theorem co27:Try.prog.cellsOf 27=1:=by kernel_rfl
theorem co9:Try.prog.cellsOf 9=1:=by kernel_rfl
theorem bo9:Try.prog.bytesOf 9=16:=by kernel_rfl
theorem co28:Try.prog.cellsOf 28=1:=by kernel_rfl
theorem co47:Try.prog.cellsOf 47=2:=by kernel_rfl
theorem bo47:Try.prog.bytesOf 47=32:=by kernel_rfl
theorem co45:Try.prog.cellsOf 45=1:=by kernel_rfl
theorem co44:Try.prog.cellsOf 44=2:=by kernel_rfl
theorem bo44:Try.prog.bytesOf 44=32:=by kernel_rfl
theorem co4:Try.prog.cellsOf 4=1:=by kernel_rfl
theorem co42:Try.prog.cellsOf 42=1:=by kernel_rfl
theorem co41:Try.prog.cellsOf 41=3:=by kernel_rfl
theorem bo41:Try.prog.bytesOf 41=24:=by kernel_rfl
theorem op41 {H:Type} {enc:TypeId×Value→H} {W:World}:Opn enc Try.prog W 41 cSymbol tf:=fun n cs x h hw=>by
 obtain ⟨hl,m,hf⟩:=struct_parts Try.underlying41 h hw
 obtain ⟨x0,p0,w0⟩:=struct_get hf 0 rfl rfl rfl co3 (opI Try.underlying3)
 obtain ⟨x1,p1,w1⟩:=struct_get hf 1 rfl rfl rfl co3 (opI Try.underlying3)
 obtain ⟨x2,p2,w2⟩:=struct_get hf 2 rfl rfl rfl co3 (opI Try.underlying3)
 exact ⟨⟨x0,x1,x2⟩,AllP.piece p0 (.piece p1 (.piece p2 (.stop (hl.trans co41)))),w0,w1,w2⟩
theorem op44 {H:Type} {enc:TypeId×Value→H} {W:World}:Opn enc Try.prog W 44 cConjunct ce:=fun n cs x h hw=>by
 obtain ⟨hl,m,hf⟩:=struct_parts Try.underlying44 h hw
 obtain ⟨x0,p0,w0⟩:=struct_get hf 0 rfl rfl rfl co4 (opB Try.underlying4)
 obtain ⟨x1,p1,w1⟩:=struct_get hf 1 rfl rfl rfl co42 (opL Try.underlying42 co41 bo41 op41)
 exact ⟨⟨x0,x1⟩,AllP.piece p0 (.piece p1 (.stop (hl.trans co44))),w0,w1⟩
theorem op47 {H:Type} {enc:TypeId×Value→H} {W:World}:Opn enc Try.prog W 47 cRule zg:=fun n cs x h hw=>by
 obtain ⟨hl,m,hf⟩:=struct_parts Try.underlying47 h hw
 obtain ⟨x0,p0,w0⟩:=struct_get hf 0 rfl rfl rfl co3 (opI Try.underlying3)
 obtain ⟨x1,p1,w1⟩:=struct_get hf 1 rfl rfl rfl co45 (opL Try.underlying45 co44 bo44 op44)
 exact ⟨⟨x0,x1⟩,AllP.piece p0 (.piece p1 (.stop (hl.trans co47))),w0,w1⟩
theorem co30:Try.prog.cellsOf 30=3:=by kernel_rfl
theorem op30 {H:Type} {enc:TypeId×Value→H} {W:World}:Opn enc Try.prog W 30 cGrammar Gd:=fun n cs x h hw=>by
 obtain ⟨hl,m,hf⟩:=struct_parts Try.underlying30 h hw
 obtain ⟨x0,p0,w0⟩:=struct_get hf 0 rfl rfl rfl co3 (opI Try.underlying3)
 obtain ⟨x1,p1,w1⟩:=struct_get hf 1 rfl rfl rfl co27 (opL Try.underlying27 co9 bo9 (opS Try.underlying9))
 obtain ⟨x2,p2,w2⟩:=struct_get hf 2 rfl rfl rfl co28 (opL Try.underlying28 co47 bo47 op47)
 exact ⟨⟨x0,x1,x2⟩,AllP.piece p0 (.piece p1 (.piece p2 (.stop (hl.trans co30)))),w0,w1,w2⟩
theorem own:ownKnob Try.prog.godebug=none:=by kernel_rfl
theorem laid:laidOutB Try.prog=true:=by kernel_rfl
theorem mapped:mapsRowed Try.prog=true:=by kernel_rfl
theorem full:∀ t e,t<Try.prog.types.size→Try.prog.underlying t=some (.slice e)→0<Try.prog.cellsOf e:=slices_full_of _ (by kernel_rfl)
theorem within:∀ t ∈ ([30,9]:List TypeId),t<Try.prog.types.size:=by
 have h:([30,9]:List TypeId).all (fun t=>decide (t<Try.prog.types.size))=true:=by kernel_rfl
 exact fun t ht=>of_decide_eq_true (List.all_eq_true.1 h t ht)
set_option maxRecDepth 100000 in
theorem lifted (os:Os) (started:os.Started) (H:Type) (enc:TypeId×Value→H) :
  ReturnsInHanded {} Try.checked os 5 .any (Rows.bothNotSpec.pre6 enc Try.prog Try.f5 Rows.bothNotRow.domain false) (Rows.bothNotSpec.post enc Try.prog Try.f5 false true false false):=by
 refine returnsInHanded_of_change_sized (C:=Try.checked) own started (by kernel_rfl) Try.func5
  (ChangeSpec.witness6 (enc:=enc) (C:=Try.checked) false ⟨#[],#[.agg #[.int .i64 0,.slice none 0 0,.slice none 0 0],.string ⟨#[]⟩],[]⟩ 8 (by kernel_rfl) (by kernel_rfl) (by kernel_rfl) (by kernel_rfl)) ?_
 intro W base args ds gs before hval hW _ hsz _
 refine law_post (kids_rows laid mapped) full (by rw [Try.params5];exact within) (by first | exact Try.resultTypes5 | rfl) Try.underlying4 rfl (fun ds h=>?_) hval hW hsz ?_
 ·rw [Try.params5] at h
  match ds,h with
  | [_,_],_=>rfl
 ·rw [Try.params5]
  exact .cons (argA Try.underlying30 op30) fun a0 w0=>.cons (argS Try.underlying9) fun a1 w1=>(let ⟨K,hK⟩:=BothNot_holds a0 a1 w0 w1;.nil ((Jb K a0 a1) true hK))
theorem over:Rows.bothNotRow.holds Try.pinned (OpenSpec.ofChange Rows.bothNotSpec) :=
 OpenClaim.holds_of_wide 5 Try.f5 rfl rfl rfl rfl rfl rfl rfl ⟨rfl,rfl,rfl,rfl,rfl⟩ rfl rfl rfl rfl rfl (by kernel_rfl) Try.func5 (by kernel_rfl)
  (of_decide_eq_true (by kernel_rfl)) (by unfold Func.isWrapper;first | (rw [if_pos (by decide +kernel)];kernel_rfl) | (rw [if_neg (by decide +kernel)];exact ⟨rfl,rfl⟩))
  (fun os started H enc _=>lifted os started H enc)
end Go.Proofs.Ytcoineklodmbnaa.bothNot
namespace Go.Proofs.Ytcoineklodmbnaa
theorem bothNot_holds:Rows.BothNotSaid:=bothNot.over
#print axioms bothNot_holds
end Go.Proofs.Ytcoineklodmbnaa

