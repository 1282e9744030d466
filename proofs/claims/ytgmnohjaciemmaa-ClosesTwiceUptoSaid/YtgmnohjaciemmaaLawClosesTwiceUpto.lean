import Derived.Test.YtgmnohjaciemmaaW8
namespace Go.Proofs.Ytgmnohjaciemmaa.closesTwiceUpto
open S Go.RowKit
set_option linter.unusedVariables false
theorem co3:Try.prog.cellsOf 3=1:=by kernel_rfl
theorem co22:Try.prog.cellsOf 22=1:=by kernel_rfl
theorem co9:Try.prog.cellsOf 9=1:=by kernel_rfl
theorem bo9:Try.prog.bytesOf 9=16:=by kernel_rfl
theorem co23:Try.prog.cellsOf 23=1:=by kernel_rfl
theorem co61:Try.prog.cellsOf 61=2:=by kernel_rfl
theorem bo61:Try.prog.bytesOf 61=32:=by kernel_rfl
theorem co59:Try.prog.cellsOf 59=1:=by kernel_rfl
theorem co58:Try.prog.cellsOf 58=2:=by kernel_rfl
theorem bo58:Try.prog.bytesOf 58=32:=by kernel_rfl
theorem co4:Try.prog.cellsOf 4=1:=by kernel_rfl
theorem co56:Try.prog.cellsOf 56=1:=by kernel_rfl
theorem co51:Try.prog.cellsOf 51=3:=by kernel_rfl
theorem bo51:Try.prog.bytesOf 51=24:=by kernel_rfl
theorem op51 {H:Type} {enc:TypeId×Value→H} {W:World}:OpnU enc Try.prog W 51 cSymbol Qa muSymbol:=fun n cs x h hw=>by
 obtain ⟨hl,m,ys,hy,hx,hf⟩:=struct_partsU Try.underlying51 h hw
 obtain ⟨x0,d0,p0,w0,y0,m0⟩:=struct_getU hf 0 rfl rfl rfl co3 (ouI Try.underlying3)
 obtain ⟨x1,d1,p1,w1,y1,m1⟩:=struct_getU hf 1 rfl rfl rfl co3 (ouI Try.underlying3)
 obtain ⟨x2,d2,p2,w2,y2,m2⟩:=struct_getU hf 2 rfl rfl rfl co3 (ouI Try.underlying3)
 exact ⟨⟨x0,x1,x2⟩,AllP.piece p0 (.piece p1 (.piece p2 (.stop (hl.trans co51)))),⟨w0,w1,w2⟩,bulk_agg hx (bulk_from 0 y0 (bulk_from 1 y1 (bulk_from 2 y2 (Nat.zero_le _) m2) m1) m0)⟩
theorem op58 {H:Type} {enc:TypeId×Value→H} {W:World}:OpnU enc Try.prog W 58 cConjunct W9 muConjunct:=fun n cs x h hw=>by
 obtain ⟨hl,m,ys,hy,hx,hf⟩:=struct_partsU Try.underlying58 h hw
 obtain ⟨x0,d0,p0,w0,y0,m0⟩:=struct_getU hf 0 rfl rfl rfl co4 (ouB Try.underlying4)
 obtain ⟨x1,d1,p1,w1,y1,m1⟩:=struct_getU hf 1 rfl rfl rfl co56 (ouL Try.underlying56 co51 bo51 op51)
 exact ⟨⟨x0,x1⟩,AllP.piece p0 (.piece p1 (.stop (hl.trans co58))),⟨w0,w1⟩,bulk_agg hx (bulk_from 0 y0 (bulk_from 1 y1 (Nat.zero_le _) m1) m0)⟩
theorem op61 {H:Type} {enc:TypeId×Value→H} {W:World}:OpnU enc Try.prog W 61 cRule yb muRule:=fun n cs x h hw=>by
 obtain ⟨hl,m,ys,hy,hx,hf⟩:=struct_partsU Try.underlying61 h hw
 obtain ⟨x0,d0,p0,w0,y0,m0⟩:=struct_getU hf 0 rfl rfl rfl co3 (ouI Try.underlying3)
 obtain ⟨x1,d1,p1,w1,y1,m1⟩:=struct_getU hf 1 rfl rfl rfl co59 (ouL Try.underlying59 co58 bo58 op58)
 exact ⟨⟨x0,x1⟩,AllP.piece p0 (.piece p1 (.stop (hl.trans co61))),⟨w0,w1⟩,bulk_agg hx (bulk_from 0 y0 (bulk_from 1 y1 (Nat.zero_le _) m1) m0)⟩
theorem co25:Try.prog.cellsOf 25=3:=by kernel_rfl
theorem op25 {H:Type} {enc:TypeId×Value→H} {W:World}:OpnU enc Try.prog W 25 cGrammar fa muGrammar:=fun n cs x h hw=>by
 obtain ⟨hl,m,ys,hy,hx,hf⟩:=struct_partsU Try.underlying25 h hw
 obtain ⟨x0,d0,p0,w0,y0,m0⟩:=struct_getU hf 0 rfl rfl rfl co3 (ouI Try.underlying3)
 obtain ⟨x1,d1,p1,w1,y1,m1⟩:=struct_getU hf 1 rfl rfl rfl co22 (ouL Try.underlying22 co9 bo9 (ouS Try.underlying9))
 obtain ⟨x2,d2,p2,w2,y2,m2⟩:=struct_getU hf 2 rfl rfl rfl co23 (ouL Try.underlying23 co61 bo61 op61)
 exact ⟨⟨x0,x1,x2⟩,AllP.piece p0 (.piece p1 (.piece p2 (.stop (hl.trans co25)))),⟨w0,w1,w2⟩,bulk_agg hx (bulk_from 0 y0 (bulk_from 1 y1 (bulk_from 2 y2 (Nat.zero_le _) m2) m1) m0)⟩
theorem co55:Try.prog.cellsOf 55=3:=by kernel_rfl
theorem bo55:Try.prog.bytesOf 55=24:=by kernel_rfl
theorem op55 {H:Type} {enc:TypeId×Value→H} {W:World}:OpnU enc Try.prog W 55 cPlace ma muPlace:=fun n cs x h hw=>by
 obtain ⟨hl,m,ys,hy,hx,hf⟩:=struct_partsU Try.underlying55 h hw
 obtain ⟨x0,d0,p0,w0,y0,m0⟩:=struct_getU hf 0 rfl rfl rfl co3 (ouI Try.underlying3)
 obtain ⟨x1,d1,p1,w1,y1,m1⟩:=struct_getU hf 1 rfl rfl rfl co3 (ouI Try.underlying3)
 obtain ⟨x2,d2,p2,w2,y2,m2⟩:=struct_getU hf 2 rfl rfl rfl co3 (ouI Try.underlying3)
 exact ⟨⟨x0,x1,x2⟩,AllP.piece p0 (.piece p1 (.piece p2 (.stop (hl.trans co55)))),⟨w0,w1,w2⟩,bulk_agg hx (bulk_from 0 y0 (bulk_from 1 y1 (bulk_from 2 y2 (Nat.zero_le _) m2) m1) m0)⟩
theorem own:ownKnob Try.prog.godebug=none:=by kernel_rfl
theorem laid:laidOutB Try.prog=true:=by kernel_rfl
theorem mapped:mapsRowed Try.prog=true:=by kernel_rfl
theorem full:∀ t e,t<Try.prog.types.size→Try.prog.underlying t=some (.slice e)→0<Try.prog.cellsOf e:=slices_full_of _ (by kernel_rfl)
theorem within:∀ t ∈ ([25,26,26]:List TypeId),t<Try.prog.types.size:=by
 have h:([25,26,26]:List TypeId).all (fun t=>decide (t<Try.prog.types.size))=true:=by kernel_rfl
 exact fun t ht=>of_decide_eq_true (List.all_eq_true.1 h t ht)
set_option maxRecDepth 100000 in
theorem lifted (os:Os) (started:os.Started) (H:Type) (enc:TypeId×Value→H) (F:Stop.Interp) :
  ReturnsInHanded {} Try.checked os 5 .any ((Rows.OpenSpec.upto Rows.closesTwiceSpec).pre6 enc Try.prog Try.f5 Rows.closesTwiceUptoRow.domain false) (((Rows.OpenSpec.upto Rows.closesTwiceSpec).at F).post enc Try.prog Try.f5 false true false false):=by
 refine returnsInHanded_of_cond_sized (C:=Try.checked) (s:=Rows.OpenSpec.upto Rows.closesTwiceSpec) (k:=Rows.uptoSmall) rfl own started (by kernel_rfl) Try.func5
  (OpenSpec.witness (enc:=enc) (C:=Try.checked) (s:=Rows.OpenSpec.upto Rows.closesTwiceSpec) (k:=Rows.uptoSmall) rfl false ⟨#[],#[.agg #[.int .i64 0,.slice none 0 0,.slice none 0 0],.slice none 0 0,.slice none 0 0],[]⟩ 8 (by kernel_rfl) (by kernel_rfl) (by kernel_rfl)
   (x:=([.agg [.lit (.int .i64 0),.nil,.nil],.nil,.nil],[],[])) (by kernel_rfl) rfl (by kernel_rfl)) ?_
 intro W base args ds gs before hval hW _ hk hsz _
 have hB:Rows.uptoBulkAll (ds++gs)≤1048576:=of_decide_eq_true hk
 refine law_postU (s:=Rows.closesTwiceSpec) (kids_rows laid mapped) full (by rw [Try.params5];exact within) (by first | exact Try.resultTypes5 | rfl) Try.underlying4 rfl (fun ds h=>?_) hval hW hsz hB ?_
 ·rw [Try.params5] at h
  match ds,h with
  | [_,_,_],_=>rfl
 ·rw [Try.params5]
  exact .cons (arguA Try.underlying25 op25) fun a0 w0 m0=>.cons (arguL Try.underlying26 co55 bo55 op55) fun a1 w1 m1=>.cons (arguL Try.underlying26 co55 bo55 op55) fun a2 w2 m2=>(let ⟨K,hK⟩:=Twice_holds a0 a1 a2 w0 m0 w1 m1 w2 m2;.nil ((J7 K a0 a1 a2) true hK))
theorem over:Rows.closesTwiceUptoRow.holds Try.pinned (Rows.OpenSpec.upto Rows.closesTwiceSpec) :=
 OpenClaim.holds_of_cond 5 Try.f5 rfl rfl rfl rfl rfl rfl rfl ⟨rfl,rfl,rfl,rfl,rfl⟩ rfl rfl rfl rfl rfl (by kernel_rfl) Try.func5 (by kernel_rfl)
  (of_decide_eq_true (by kernel_rfl)) (by unfold Func.isWrapper;first | (rw [if_pos (by decide +kernel)];kernel_rfl) | (rw [if_neg (by decide +kernel)];exact ⟨rfl,rfl⟩))
  (fun os started H enc _ F=>lifted os started H enc F)
end Go.Proofs.Ytgmnohjaciemmaa.closesTwiceUpto
namespace Go.Proofs.Ytgmnohjaciemmaa
theorem closesTwiceUpto_holds:Rows.ClosesTwiceUptoSaid:=closesTwiceUpto.over
#print axioms closesTwiceUpto_holds
end Go.Proofs.Ytgmnohjaciemmaa

