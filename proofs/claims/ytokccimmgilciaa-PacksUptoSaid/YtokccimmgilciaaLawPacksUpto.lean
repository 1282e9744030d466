import Derived.Test.YtokccimmgilciaaW8
namespace Go.Proofs.Ytokccimmgilciaa.packsUpto
open S Go.RowKit
set_option linter.unusedVariables false
theorem co3:Try.prog.cellsOf 3=1:=by kernel_rfl
theorem co22:Try.prog.cellsOf 22=1:=by kernel_rfl
theorem co46:Try.prog.cellsOf 46=10:=by kernel_rfl
theorem bo46:Try.prog.bytesOf 46=96:=by kernel_rfl
theorem co4:Try.prog.cellsOf 4=1:=by kernel_rfl
theorem co43:Try.prog.cellsOf 43=3:=by kernel_rfl
theorem op43 {H:Type} {enc:TypeId×Value→H} {W:World}:OpnU enc Try.prog W 43 cPlace rc muPlace:=fun n cs x h hw=>by
 obtain ⟨hl,m,ys,hy,hx,hf⟩:=struct_partsU Try.underlying43 h hw
 obtain ⟨x0,d0,p0,w0,y0,m0⟩:=struct_getU hf 0 rfl rfl rfl co3 (ouI Try.underlying3)
 obtain ⟨x1,d1,p1,w1,y1,m1⟩:=struct_getU hf 1 rfl rfl rfl co3 (ouI Try.underlying3)
 obtain ⟨x2,d2,p2,w2,y2,m2⟩:=struct_getU hf 2 rfl rfl rfl co3 (ouI Try.underlying3)
 exact ⟨⟨x0,x1,x2⟩,AllP.piece p0 (.piece p1 (.piece p2 (.stop (hl.trans co43)))),⟨w0,w1,w2⟩,bulk_agg hx (bulk_from 0 y0 (bulk_from 1 y1 (bulk_from 2 y2 (Nat.zero_le _) m2) m1) m0)⟩
theorem co44:Try.prog.cellsOf 44=1:=by kernel_rfl
theorem co49:Try.prog.cellsOf 49=3:=by kernel_rfl
theorem bo49:Try.prog.bytesOf 49=40:=by kernel_rfl
theorem co47:Try.prog.cellsOf 47=1:=by kernel_rfl
theorem bo3:Try.prog.bytesOf 3=8:=by kernel_rfl
theorem op49 {H:Type} {enc:TypeId×Value→H} {W:World}:OpnU enc Try.prog W 49 cPick wc muPick:=fun n cs x h hw=>by
 obtain ⟨hl,m,ys,hy,hx,hf⟩:=struct_partsU Try.underlying49 h hw
 obtain ⟨x0,d0,p0,w0,y0,m0⟩:=struct_getU hf 0 rfl rfl rfl co3 (ouI Try.underlying3)
 obtain ⟨x1,d1,p1,w1,y1,m1⟩:=struct_getU hf 1 rfl rfl rfl co3 (ouI Try.underlying3)
 obtain ⟨x2,d2,p2,w2,y2,m2⟩:=struct_getU hf 2 rfl rfl rfl co47 (ouL Try.underlying47 co3 bo3 (ouI Try.underlying3))
 exact ⟨⟨x0,x1,x2⟩,AllP.piece p0 (.piece p1 (.piece p2 (.stop (hl.trans co49)))),⟨w0,w1,w2⟩,bulk_agg hx (bulk_from 0 y0 (bulk_from 1 y1 (bulk_from 2 y2 (Nat.zero_le _) m2) m1) m0)⟩
theorem op46 {H:Type} {enc:TypeId×Value→H} {W:World}:OpnU enc Try.prog W 46 cNode yc muNode:=fun n cs x h hw=>by
 obtain ⟨hl,m,ys,hy,hx,hf⟩:=struct_partsU Try.underlying46 h hw
 obtain ⟨x0,d0,p0,w0,y0,m0⟩:=struct_getU hf 0 rfl rfl rfl co4 (ouB Try.underlying4)
 obtain ⟨x1,d1,p1,w1,y1,m1⟩:=struct_getU hf 1 rfl rfl rfl co3 (ouI Try.underlying3)
 obtain ⟨x2,d2,p2,w2,y2,m2⟩:=struct_getU hf 2 rfl rfl rfl co3 (ouI Try.underlying3)
 obtain ⟨x3,d3,p3,w3,y3,m3⟩:=struct_getU hf 3 rfl rfl rfl co43 op43
 obtain ⟨x4,d4,p4,w4,y4,m4⟩:=struct_getU hf 4 rfl rfl rfl co3 (ouI Try.underlying3)
 obtain ⟨x5,d5,p5,w5,y5,m5⟩:=struct_getU hf 5 rfl rfl rfl co3 (ouI Try.underlying3)
 obtain ⟨x6,d6,p6,w6,y6,m6⟩:=struct_getU hf 6 rfl rfl rfl co3 (ouI Try.underlying3)
 obtain ⟨x7,d7,p7,w7,y7,m7⟩:=struct_getU hf 7 rfl rfl rfl co44 (ouL Try.underlying44 co49 bo49 op49)
 exact ⟨⟨x0,x1,x2,x3,x4,x5,x6,x7⟩,AllP.piece p0 (.piece p1 (.piece p2 (.piece p3 (.piece p4 (.piece p5 (.piece p6 (.piece p7 (.stop (hl.trans co46))))))))),⟨w0,w1,w2,w3,w4,w5,w6,w7⟩,bulk_agg hx (bulk_from 0 y0 (bulk_from 1 y1 (bulk_from 2 y2 (bulk_from 3 y3 (bulk_from 4 y4 (bulk_from 5 y5 (bulk_from 6 y6 (bulk_from 7 y7 (Nat.zero_le _) m7) m6) m5) m4) m3) m2) m1) m0)⟩
theorem co24:Try.prog.cellsOf 24=2:=by kernel_rfl
theorem op24 {H:Type} {enc:TypeId×Value→H} {W:World}:OpnU enc Try.prog W 24 cCert cc muCert:=fun n cs x h hw=>by
 obtain ⟨hl,m,ys,hy,hx,hf⟩:=struct_partsU Try.underlying24 h hw
 obtain ⟨x0,d0,p0,w0,y0,m0⟩:=struct_getU hf 0 rfl rfl rfl co3 (ouI Try.underlying3)
 obtain ⟨x1,d1,p1,w1,y1,m1⟩:=struct_getU hf 1 rfl rfl rfl co22 (ouL Try.underlying22 co46 bo46 op46)
 exact ⟨⟨x0,x1⟩,AllP.piece p0 (.piece p1 (.stop (hl.trans co24))),⟨w0,w1⟩,bulk_agg hx (bulk_from 0 y0 (bulk_from 1 y1 (Nat.zero_le _) m1) m0)⟩
theorem own:ownKnob Try.prog.godebug=none:=by kernel_rfl
theorem laid:laidOutB Try.prog=true:=by kernel_rfl
theorem mapped:mapsRowed Try.prog=true:=by kernel_rfl
theorem full:∀ t e,t<Try.prog.types.size→Try.prog.underlying t=some (.slice e)→0<Try.prog.cellsOf e:=slices_full_of _ (by kernel_rfl)
theorem within:∀ t ∈ ([24,9]:List TypeId),t<Try.prog.types.size:=by
 have h:([24,9]:List TypeId).all (fun t=>decide (t<Try.prog.types.size))=true:=by kernel_rfl
 exact fun t ht=>of_decide_eq_true (List.all_eq_true.1 h t ht)
set_option maxRecDepth 100000 in
theorem lifted (os:Os) (started:os.Started) (H:Type) (enc:TypeId×Value→H) (F:Stop.Interp) :
  ReturnsInHanded {} Try.checked os 3 .any ((Rows.OpenSpec.upto Rows.packsSpec).pre6 enc Try.prog Try.f3 Rows.packsUptoRow.domain false) (((Rows.OpenSpec.upto Rows.packsSpec).at F).post enc Try.prog Try.f3 false true false false):=by
 refine returnsInHanded_of_cond_sized (C:=Try.checked) (s:=Rows.OpenSpec.upto Rows.packsSpec) (k:=Rows.uptoSmall) rfl own started (by kernel_rfl) Try.func3
  (OpenSpec.witness (enc:=enc) (C:=Try.checked) (s:=Rows.OpenSpec.upto Rows.packsSpec) (k:=Rows.uptoSmall) rfl false ⟨#[],#[.agg #[.int .i64 0,.slice none 0 0],.string ⟨#[]⟩],[]⟩ 8 (by kernel_rfl) (by kernel_rfl) (by kernel_rfl)
   (x:=([.agg [.lit (.int .i64 0),.nil],.lit (.string [])],[],[])) (by kernel_rfl) rfl (by kernel_rfl)) ?_
 intro W base args ds gs before hval hW _ hk hsz _
 have hB:Rows.uptoBulkAll (ds++gs)≤1048576:=of_decide_eq_true hk
 refine law_postU (s:=Rows.packsSpec) (kids_rows laid mapped) full (by rw [Try.params3];exact within) (by first | exact Try.resultTypes3 | rfl) Try.underlying4 rfl (fun ds h=>?_) hval hW hsz hB ?_
 ·rw [Try.params3] at h
  match ds,h with
  | [_,_],_=>rfl
 ·rw [Try.params3]
  exact .cons (arguA Try.underlying24 op24) fun a0 w0 m0=>.cons (arguS Try.underlying9) fun a1 w1 m1=>(let ⟨K,hK⟩:=Packs_holds a0 a1 w0 m0 w1 m1;.nil ((M9 K a0 a1) true hK))
theorem over:Rows.packsUptoRow.holds Try.pinned (Rows.OpenSpec.upto Rows.packsSpec) :=
 OpenClaim.holds_of_cond 3 Try.f3 rfl rfl rfl rfl rfl rfl rfl ⟨rfl,rfl,rfl,rfl,rfl⟩ rfl rfl rfl rfl rfl (by kernel_rfl) Try.func3 (by kernel_rfl)
  (of_decide_eq_true (by kernel_rfl)) (by unfold Func.isWrapper;first | (rw [if_pos (by decide +kernel)];kernel_rfl) | (rw [if_neg (by decide +kernel)];exact ⟨rfl,rfl⟩))
  (fun os started H enc _ F=>lifted os started H enc F)
end Go.Proofs.Ytokccimmgilciaa.packsUpto
namespace Go.Proofs.Ytokccimmgilciaa
theorem packsUpto_holds:Rows.PacksUptoSaid:=packsUpto.over
#print axioms packsUpto_holds
end Go.Proofs.Ytokccimmgilciaa

