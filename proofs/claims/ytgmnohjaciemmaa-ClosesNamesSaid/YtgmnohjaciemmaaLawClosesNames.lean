import Derived.Test.YtgmnohjaciemmaaW14
namespace Go.Proofs.Ytgmnohjaciemmaa.closesNames
open S Go.RowKit
set_option linter.unusedVariables false
theorem own:ownKnob Try.prog.godebug=none:=by kernel_rfl
theorem laid:laidOutB Try.prog=true:=by kernel_rfl
theorem mapped:mapsRowed Try.prog=true:=by kernel_rfl
theorem full:∀ t e,t<Try.prog.types.size→Try.prog.underlying t=some (.slice e)→0<Try.prog.cellsOf e:=slices_full_of _ (by kernel_rfl)
theorem within:∀ t ∈ ([3,3,3]:List TypeId),t<Try.prog.types.size:=by
 have h:([3,3,3]:List TypeId).all (fun t=>decide (t<Try.prog.types.size))=true:=by kernel_rfl
 exact fun t ht=>of_decide_eq_true (List.all_eq_true.1 h t ht)
set_option maxRecDepth 100000 in
theorem lifted (os:Os) (started:os.Started) (H:Type) (enc:TypeId×Value→H) :
  ReturnsInHanded {} Try.checked os 8 .any (Rows.closesNamesSpec.pre6 enc Try.prog Try.f8 Rows.closesNamesRow.domain false) (Rows.closesNamesSpec.post enc Try.prog Try.f8 false true false false):=by
 refine returnsInHanded_of_change_sized (C:=Try.checked) own started (by kernel_rfl) Try.func8
  (ChangeSpec.witness6 (enc:=enc) (C:=Try.checked) false ⟨#[],#[.int .i64 0,.int .i64 0,.int .i64 0],[]⟩ 8 (by kernel_rfl) (by kernel_rfl) (by kernel_rfl) (by kernel_rfl)) ?_
 intro W base args ds gs before hval hW _ hsz _
 refine law_post (kids_rows laid mapped) full (by rw [Try.params8];exact within) (by first | exact Try.resultTypes8 | rfl) Try.underlying4 rfl (fun ds h=>?_) hval hW hsz ?_
 ·rw [Try.params8] at h
  match ds,h with
  | [_,_,_],_=>rfl
 ·rw [Try.params8]
  exact .cons (argI Try.underlying3) fun a0 w0=>.cons (argI Try.underlying3) fun a1 w1=>.cons (argI Try.underlying3) fun a2 w2=>(let ⟨K,hK⟩:=Names_holds a0 a1 a2;.nil ((P9 K a0 a1 a2) true hK))
theorem over:Rows.closesNamesRow.holds Try.pinned (OpenSpec.ofChange Rows.closesNamesSpec) :=
 OpenClaim.holds_of_wide 8 Try.f8 rfl rfl rfl rfl rfl rfl rfl ⟨rfl,rfl,rfl,rfl,rfl⟩ rfl rfl rfl rfl rfl (by kernel_rfl) Try.func8 (by kernel_rfl)
  (of_decide_eq_true (by kernel_rfl)) (by unfold Func.isWrapper;first | (rw [if_pos (by decide +kernel)];kernel_rfl) | (rw [if_neg (by decide +kernel)];exact ⟨rfl,rfl⟩))
  (fun os started H enc _=>lifted os started H enc)
end Go.Proofs.Ytgmnohjaciemmaa.closesNames
namespace Go.Proofs.Ytgmnohjaciemmaa
theorem closesNames_holds:Rows.ClosesNamesSaid:=closesNames.over
#print axioms closesNames_holds
end Go.Proofs.Ytgmnohjaciemmaa

