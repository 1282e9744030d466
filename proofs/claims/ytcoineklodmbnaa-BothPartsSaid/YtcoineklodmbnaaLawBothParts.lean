import Derived.Test.YtcoineklodmbnaaW13
namespace Go.Proofs.Ytcoineklodmbnaa.bothParts
open S Go.RowKit
set_option linter.unusedVariables false
theorem co3:Try.prog.cellsOf 3=1:=by kernel_rfl
theorem co27:Try.prog.cellsOf 27=1:=by kernel_rfl
theorem co9:Try.prog.cellsOf 9=1:=by kernel_rfl
theorem bo9:Try.prog.bytesOf 9=16:=by kernel_rfl
theorem co28:Try.prog.cellsOf 28=1:=by kernel_rfl
theorem co47:Try.prog.cellsOf 47=2:=by kernel_rfl
theorem bo47:Try.prog.bytesOf 47=32:=by kernel_rfl
theorem co45:Try.prog.cellsOf 45=1:=by kernel_rfl
theorem co44:Try.prog.cellsOf 44=2:=by kernel_rfl
theorem bo44:Try.prog.bytesOf 44=32:=by kernel_rfl
theorem co4:Try.prog.cellsOf 4=1:=by kernel_rfl
theorem co42:Try.prog.cellsOf 42=1:=by kernel_rfl
theorem co41:Try.prog.cellsOf 41=3:=by kernel_rfl
theorem bo41:Try.prog.bytesOf 41=24:=by kernel_rfl
theorem op41 {H:Type} {enc:TypeId×Value→H} {W:World}:Opn enc Try.prog W 41 cSymbol qe:=fun n cs x h hw=>by
 obtain ⟨hl,m,hf⟩:=struct_parts Try.underlying41 h hw
 obtain ⟨x0,p0,w0⟩:=struct_get hf 0 rfl rfl rfl co3 (opI Try.underlying3)
 obtain ⟨x1,p1,w1⟩:=struct_get hf 1 rfl rfl rfl co3 (opI Try.underlying3)
 obtain ⟨x2,p2,w2⟩:=struct_get hf 2 rfl rfl rfl co3 (opI Try.underlying3)
 exact ⟨⟨x0,x1,x2⟩,AllP.piece p0 (.piece p1 (.piece p2 (.stop (hl.trans co41)))),w0,w1,w2⟩
theorem op44 {H:Type} {enc:TypeId×Value→H} {W:World}:Opn enc Try.prog W 44 cConjunct Wc:=fun n cs x h hw=>by
 obtain ⟨hl,m,hf⟩:=struct_parts Try.underlying44 h hw
 obtain ⟨x0,p0,w0⟩:=struct_get hf 0 rfl rfl rfl co4 (opB Try.underlying4)
 obtain ⟨x1,p1,w1⟩:=struct_get hf 1 rfl rfl rfl co42 (opL Try.underlying42 co41 bo41 op41)
 exact ⟨⟨x0,x1⟩,AllP.piece p0 (.piece p1 (.stop (hl.trans co44))),w0,w1⟩
theorem op47 {H:Type} {enc:TypeId×Value→H} {W:World}:Opn enc Try.prog W 47 cRule Pf:=fun n cs x h hw=>by
 obtain ⟨hl,m,hf⟩:=struct_parts Try.underlying47 h hw
 obtain ⟨x0,p0,w0⟩:=struct_get hf 0 rfl rfl rfl co3 (opI Try.underlying3)
 obtain ⟨x1,p1,w1⟩:=struct_get hf 1 rfl rfl rfl co45 (opL Try.underlying45 co44 bo44 op44)
 exact ⟨⟨x0,x1⟩,AllP.piece p0 (.piece p1 (.stop (hl.trans co47))),w0,w1⟩
theorem co30:Try.prog.cellsOf 30=3:=by kernel_rfl
theorem op30 {H:Type} {enc:TypeId×Value→H} {W:World}:Opn enc Try.prog W 30 cGrammar Je:=fun n cs x h hw=>by
 obtain ⟨hl,m,hf⟩:=struct_parts Try.underlying30 h hw
 obtain ⟨x0,p0,w0⟩:=struct_get hf 0 rfl rfl rfl co3 (opI Try.underlying3)
 obtain ⟨x1,p1,w1⟩:=struct_get hf 1 rfl rfl rfl co27 (opL Try.underlying27 co9 bo9 (opS Try.underlying9))
 obtain ⟨x2,p2,w2⟩:=struct_get hf 2 rfl rfl rfl co28 (opL Try.underlying28 co47 bo47 op47)
 exact ⟨⟨x0,x1,x2⟩,AllP.piece p0 (.piece p1 (.piece p2 (.stop (hl.trans co30)))),w0,w1,w2⟩
theorem bo3:Try.prog.bytesOf 3=8:=by kernel_rfl
theorem own:ownKnob Try.prog.godebug=none:=by kernel_rfl
theorem laid:laidOutB Try.prog=true:=by kernel_rfl
theorem mapped:mapsRowed Try.prog=true:=by kernel_rfl
theorem full:∀ t e,t<Try.prog.types.size→Try.prog.underlying t=some (.slice e)→0<Try.prog.cellsOf e:=slices_full_of _ (by kernel_rfl)
theorem within:∀ t ∈ ([30,9,48]:List TypeId),t<Try.prog.types.size:=by
 have h:([30,9,48]:List TypeId).all (fun t=>decide (t<Try.prog.types.size))=true:=by kernel_rfl
 exact fun t ht=>of_decide_eq_true (List.all_eq_true.1 h t ht)
set_option maxRecDepth 100000 in
theorem lifted (os:Os) (started:os.Started) (H:Type) (enc:TypeId×Value→H) :
  ReturnsInHanded {} Try.checked os 6 .any (Rows.bothPartsSpec.pre6 enc Try.prog Try.f6 Rows.bothPartsRow.domain false) (Rows.bothPartsSpec.post enc Try.prog Try.f6 false true false false):=by
 refine returnsInHanded_of_change_sized (C:=Try.checked) own started (by kernel_rfl) Try.func6
  (ChangeSpec.witness6 (enc:=enc) (C:=Try.checked) false ⟨#[],#[.agg #[.int .i64 0,.slice none 0 0,.slice none 0 0],.string ⟨#[]⟩,.slice none 0 0],[]⟩ 8 (by kernel_rfl) (by kernel_rfl) (by kernel_rfl) (by kernel_rfl)) ?_
 intro W base args ds gs before hval hW _ hsz _
 refine law_post (kids_rows laid mapped) full (by rw [Try.params6];exact within) (by first | exact Try.resultTypes6 | rfl) Try.underlying4 rfl (fun ds h=>?_) hval hW hsz ?_
 ·rw [Try.params6] at h
  match ds,h with
  | [_,_,_],_=>rfl
 ·rw [Try.params6]
  exact .cons (argA Try.underlying30 op30) fun a0 w0=>.cons (argS Try.underlying9) fun a1 w1=>.cons (argL Try.underlying48 co3 bo3 (opI Try.underlying3)) fun a2 w2=>(let ⟨K,hK⟩:=BothParts_holds a0 a1 a2;.nil ((yb K a0 a1 a2) true hK))
theorem over:Rows.bothPartsRow.holds Try.pinned (OpenSpec.ofChange Rows.bothPartsSpec) :=
 OpenClaim.holds_of_wide 6 Try.f6 rfl rfl rfl rfl rfl rfl rfl ⟨rfl,rfl,rfl,rfl,rfl⟩ rfl rfl rfl rfl rfl (by kernel_rfl) Try.func6 (by kernel_rfl)
  (of_decide_eq_true (by kernel_rfl)) (by unfold Func.isWrapper;first | (rw [if_pos (by decide +kernel)];kernel_rfl) | (rw [if_neg (by decide +kernel)];exact ⟨rfl,rfl⟩))
  (fun os started H enc _=>lifted os started H enc)
end Go.Proofs.Ytcoineklodmbnaa.bothParts
namespace Go.Proofs.Ytcoineklodmbnaa
theorem bothParts_holds:Rows.BothPartsSaid:=bothParts.over
#print axioms bothParts_holds
end Go.Proofs.Ytcoineklodmbnaa

