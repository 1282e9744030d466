import Derived.Test.YtcoineklodmbnaaGreatW17
namespace Go.Proofs.YtcoineklodmbnaaGreat.bothSay
open S Go.RowKit
set_option linter.unusedVariables false
theorem co3:Tryz.prog.cellsOf 3=1:=by kernel_rfl
theorem co22:Tryz.prog.cellsOf 22=1:=by kernel_rfl
theorem co9:Tryz.prog.cellsOf 9=1:=by kernel_rfl
theorem bo9:Tryz.prog.bytesOf 9=16:=by kernel_rfl
theorem co23:Tryz.prog.cellsOf 23=1:=by kernel_rfl
theorem co61:Tryz.prog.cellsOf 61=2:=by kernel_rfl
theorem bo61:Tryz.prog.bytesOf 61=32:=by kernel_rfl
theorem co59:Tryz.prog.cellsOf 59=1:=by kernel_rfl
theorem co64:Tryz.prog.cellsOf 64=2:=by kernel_rfl
theorem bo64:Tryz.prog.bytesOf 64=32:=by kernel_rfl
theorem co4:Tryz.prog.cellsOf 4=1:=by kernel_rfl
theorem co62:Tryz.prog.cellsOf 62=1:=by kernel_rfl
theorem co92:Tryz.prog.cellsOf 92=3:=by kernel_rfl
theorem bo92:Tryz.prog.bytesOf 92=24:=by kernel_rfl
theorem op92 {H:Type} {enc:TypeId×Value→H} {W:World}:Opn enc Tryz.prog W 92 cSymbol Ji:=fun n cs x h hw=>by
 obtain ⟨hl,m,hf⟩:=struct_parts Tryz.underlying92 h hw
 obtain ⟨x0,p0,w0⟩:=struct_get hf 0 rfl rfl rfl co3 (opI Tryz.underlying3)
 obtain ⟨x1,p1,w1⟩:=struct_get hf 1 rfl rfl rfl co3 (opI Tryz.underlying3)
 obtain ⟨x2,p2,w2⟩:=struct_get hf 2 rfl rfl rfl co3 (opI Tryz.underlying3)
 exact ⟨⟨x0,x1,x2⟩,AllP.piece p0 (.piece p1 (.piece p2 (.stop (hl.trans co92)))),w0,w1,w2⟩
theorem op64 {H:Type} {enc:TypeId×Value→H} {W:World}:Opn enc Tryz.prog W 64 cConjunct Gh:=fun n cs x h hw=>by
 obtain ⟨hl,m,hf⟩:=struct_parts Tryz.underlying64 h hw
 obtain ⟨x0,p0,w0⟩:=struct_get hf 0 rfl rfl rfl co4 (opB Tryz.underlying4)
 obtain ⟨x1,p1,w1⟩:=struct_get hf 1 rfl rfl rfl co62 (opL Tryz.underlying62 co92 bo92 op92)
 exact ⟨⟨x0,x1⟩,AllP.piece p0 (.piece p1 (.stop (hl.trans co64))),w0,w1⟩
theorem op61 {H:Type} {enc:TypeId×Value→H} {W:World}:Opn enc Tryz.prog W 61 cRule qk:=fun n cs x h hw=>by
 obtain ⟨hl,m,hf⟩:=struct_parts Tryz.underlying61 h hw
 obtain ⟨x0,p0,w0⟩:=struct_get hf 0 rfl rfl rfl co3 (opI Tryz.underlying3)
 obtain ⟨x1,p1,w1⟩:=struct_get hf 1 rfl rfl rfl co59 (opL Tryz.underlying59 co64 bo64 op64)
 exact ⟨⟨x0,x1⟩,AllP.piece p0 (.piece p1 (.stop (hl.trans co61))),w0,w1⟩
theorem co25:Tryz.prog.cellsOf 25=3:=by kernel_rfl
theorem op25 {H:Type} {enc:TypeId×Value→H} {W:World}:Opn enc Tryz.prog W 25 cGrammar jh:=fun n cs x h hw=>by
 obtain ⟨hl,m,hf⟩:=struct_parts Tryz.underlying25 h hw
 obtain ⟨x0,p0,w0⟩:=struct_get hf 0 rfl rfl rfl co3 (opI Tryz.underlying3)
 obtain ⟨x1,p1,w1⟩:=struct_get hf 1 rfl rfl rfl co22 (opL Tryz.underlying22 co9 bo9 (opS Tryz.underlying9))
 obtain ⟨x2,p2,w2⟩:=struct_get hf 2 rfl rfl rfl co23 (opL Tryz.underlying23 co61 bo61 op61)
 exact ⟨⟨x0,x1,x2⟩,AllP.piece p0 (.piece p1 (.piece p2 (.stop (hl.trans co25)))),w0,w1,w2⟩
theorem bo3:Tryz.prog.bytesOf 3=8:=by kernel_rfl
theorem own:ownKnob Tryz.prog.godebug=none:=by kernel_rfl
theorem laid:laidOutB Tryz.prog=true:=by kernel_rfl
theorem mapped:mapsRowed Tryz.prog=true:=by kernel_rfl
theorem full:∀ t e,t<Tryz.prog.types.size→Tryz.prog.underlying t=some (.slice e)→0<Tryz.prog.cellsOf e:=slices_full_of _ (by kernel_rfl)
theorem within:∀ t ∈ ([25,26,3]:List TypeId),t<Tryz.prog.types.size:=by
 have h:([25,26,3]:List TypeId).all (fun t=>decide (t<Tryz.prog.types.size))=true:=by kernel_rfl
 exact fun t ht=>of_decide_eq_true (List.all_eq_true.1 h t ht)
set_option maxRecDepth 100000 in
theorem lifted (os:Os) (started:os.Started) (H:Type) (enc:TypeId×Value→H) :
  ReturnsInHanded {} Tryz.checked os 3 .any (Rows.bothSaySpec.pre6 enc Tryz.prog Tryz.f3 Rows.bothSayRow.domain false) (Rows.bothSaySpec.post enc Tryz.prog Tryz.f3 false true false false):=by
 refine returnsInHanded_of_change_sized (C:=Tryz.checked) own started (by kernel_rfl) Tryz.func3
  (ChangeSpec.witness6 (enc:=enc) (C:=Tryz.checked) false ⟨#[],#[.agg #[.int .i64 0,.slice none 0 0,.slice none 0 0],.slice none 0 0,.int .i64 0],[]⟩ 8 (by kernel_rfl) (by kernel_rfl) (by kernel_rfl) (by kernel_rfl)) ?_
 intro W base args ds gs before hval hW _ hsz _
 refine law_post (kids_rows laid mapped) full (by rw [Tryz.params3];exact within) (by first | exact Tryz.resultTypes3 | rfl) Tryz.underlying4 rfl (fun ds h=>?_) hval hW hsz ?_
 ·rw [Tryz.params3] at h
  match ds,h with
  | [_,_,_],_=>rfl
 ·rw [Tryz.params3]
  exact .cons (argA Tryz.underlying25 op25) fun a0 w0=>.cons (argL Tryz.underlying26 co3 bo3 (opI Tryz.underlying3)) fun a1 w1=>.cons (argI Tryz.underlying3) fun a2 w2=>(let ⟨K,hK⟩:=BothSay_holds a0 a1 a2 w0 w1 w2;.nil ((af K a0 a1 a2) true hK))
theorem over:Rows.bothSayRow.holds Tryz.pinned (OpenSpec.ofChange Rows.bothSaySpec) :=
 OpenClaim.holds_of_wide 3 Tryz.f3 rfl rfl rfl rfl rfl rfl rfl ⟨rfl,rfl,rfl,rfl,rfl⟩ rfl rfl rfl rfl rfl (by kernel_rfl) Tryz.func3 (by kernel_rfl)
  (of_decide_eq_true (by kernel_rfl)) (by unfold Func.isWrapper;first | (rw [if_pos (by decide +kernel)];kernel_rfl) | (rw [if_neg (by decide +kernel)];exact ⟨rfl,rfl⟩))
  (fun os started H enc _=>lifted os started H enc)
end Go.Proofs.YtcoineklodmbnaaGreat.bothSay
namespace Go.Proofs.YtcoineklodmbnaaGreat
theorem bothSay_holds:Rows.BothSaySaid:=bothSay.over
#print axioms bothSay_holds
end Go.Proofs.YtcoineklodmbnaaGreat

