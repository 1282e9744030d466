import Derived.Shelf.SlLaysF0
import Derived.Test.YtgmnohjaciemmaaProg
import Derived.Test.YtgmnohjaciemmaaW5
namespace Go.Proofs.Ytgmnohjaciemmaa
open S
set_option linter.unusedVariables false
set_option maxRecDepth 100000
set_option maxHeartbeats 4000000
def V6.l0 (K:Nat) (g1:Grammar):Nat→(Int×Int×Int)→Option ((Int×Int×Int) ⊕ Bool)
 | 0,_=>none
 | m+1,(head9,all10,t11)=>if t11<(g1.Rules.length:Int) then if 0≤t11 then (w6 K (rd g1.Rules t11) (g1.Names.length:Int)).bind fun r14=>if (!r14.2)=true then some (.inr false) else if ((rd g1.Rules t11).Head)<head9 then some (.inr false) else if (IntKind.wrap .i64 (head9+1))<((rd g1.Rules t11).Head) then some (.inr false) else if 1024<(IntKind.wrap .i64 (all10+r14.1)) then some (.inr false) else V6.l0 K g1 m ((rd g1.Rules t11).Head,IntKind.wrap .i64 (all10+r14.1),IntKind.wrap .i64 (t11+1)) else none else some (.inl (head9,all10,t11))
def V6 (K:Nat) (g1:Grammar):Option Bool:=(c7 K g1.Names).bind fun r2=>if (!r2)=true then some false else if g1.Start<0 then some false else if (g1.Names.length:Int)≤g1.Start then some false else if (g1.Rules.length:Int)<1 then some false else if 256<(g1.Rules.length:Int) then some false else brk (V6.l0 K g1 K ((-1),0,0)) fun (head9,all10,t11)=>if 0<(g1.Rules.length:Int) then if ((rd g1.Rules 0).Head)=0 then some (decide (head9=(IntKind.wrap .i64 ((g1.Names.length:Int)-1)))) else some false else none
theorem Gb (K:Nat) (g1:Grammar):Pure Try.prog 27 [.agg (cGrammar.e g1)] (V6 K g1) (fun r=>Ab r):=by
 refine spec_of' Try.func27 rfl Try.ntmps27 (le_ rfl) ?_
 refine sSR Y<|sQ (P7 (az:=cGrammar.e g1) Y cAgg) Y<|sA Y Y<|j0<|W0<|sSR Y<|sQ (dFA fa25_1 Y) Y<|sQ (dLd g22 Y Y) Y<|j4 fun r2 e3=>sQ (J4 ent49 (fc K _) e3 (.s Y .nil)) Y<|sQ (z8 Y) Y<|sM Y Y<|M3 (fun h4=>?_) (fun h4=>?_)
 ·refine sU 4 Y Y Y h4 Y Y<|sU 4 Y Y Y h4 Y Y<|sU 4 Y Y Y h4 Y Y<|sQ (G0 Y h4 Y) Y<|sM Y Y<|sU 9 Y Y Y Y Y Y<|sU 9 Y Y Y Y Y Y<|sU 9 Y Y Y Y Y Y<|sU 9 Y Y Y Y Y Y<|sU 9 Y Y Y Y Y Y<|sU 9 Y Y Y Y Y Y<|sQ (G0 Y Y Y) Y<|sM Y Y<|sU 17 Y Y Y Y Y Y<|sU 17 Y Y Y Y Y Y<|sU 17 Y Y Y Y Y Y<|sU 17 Y Y Y Y Y Y<|sQ (G0 Y Y Y) Y<|sM Y Y<|sU 23 Y Y Y Y Y Y<|sU 23 Y Y Y Y Y Y<|sU 23 Y Y Y Y Y Y<|sU 23 Y Y Y Y Y Y<|sQ (G0 Y Y Y) Y<|j0<|M4 Y Y<|sSR Y<|sA Y Y<|j0<|M0 [] Try.func27 Try.results27 (rT Y) ⟨Y,Y⟩
 ·refine sG 4 Y Y Y (eF h4) Y (dFA fa25_0 Y) Y<|sG 4 Y Y Y (eF h4) Y (dLd g3 Y Y) Y<|sG 4 Y Y Y (eF h4) Y (dLt Y Y) Y<|sQ (P0 Y (eF h4) Y) Y<|sM Y Y<|M3 (fun h5=>?_) (fun h5=>?_)
  ·refine sU 9 Y Y Y (dT h5) Y Y<|sU 9 Y Y Y (dT h5) Y Y<|sU 9 Y Y Y (dT h5) Y Y<|sU 9 Y Y Y (dT h5) Y Y<|sU 9 Y Y Y (dT h5) Y Y<|sU 9 Y Y Y (dT h5) Y Y<|sQ (G0 Y (dT h5) Y) Y<|sM Y Y<|sU 17 Y Y Y Y Y Y<|sU 17 Y Y Y Y Y Y<|sU 17 Y Y Y Y Y Y<|sU 17 Y Y Y Y Y Y<|sQ (G0 Y Y Y) Y<|sM Y Y<|sU 23 Y Y Y Y Y Y<|sU 23 Y Y Y Y Y Y<|sU 23 Y Y Y Y Y Y<|sU 23 Y Y Y Y Y Y<|sQ (G0 Y Y Y) Y<|j0<|M4 Y Y<|sSR Y<|sA Y Y<|j0<|M0 [] Try.func27 Try.results27 (rT Y) ⟨Y,Y⟩
  ·refine sG 9 Y Y Y (dF h5) Y (dFA fa25_0 Y) Y<|sG 9 Y Y Y (dF h5) Y (dLd g3 Y Y) Y<|sG 9 Y Y Y (dF h5) Y (dFA fa25_1 Y) Y<|sG 9 Y Y Y (dF h5) Y (dLd g22 Y Y) Y<|sG 9 Y Y Y (dF h5) Y (L4 Try.underlying22 Y) Y<|sG 9 Y Y Y (dF h5) Y (dGe Y Y) Y<|sQ (P0 Y (dF h5) Y) Y<|sM Y Y<|M3 (fun h6=>?_) (fun h6=>?_)
   ·refine sU 17 Y Y Y (dT h6) Y Y<|sU 17 Y Y Y (dT h6) Y Y<|sU 17 Y Y Y (dT h6) Y Y<|sU 17 Y Y Y (dT h6) Y Y<|sQ (G0 Y (dT h6) Y) Y<|sM Y Y<|sU 23 Y Y Y Y Y Y<|sU 23 Y Y Y Y Y Y<|sU 23 Y Y Y Y Y Y<|sU 23 Y Y Y Y Y Y<|sQ (G0 Y Y Y) Y<|j0<|M4 Y Y<|sSR Y<|sA Y Y<|j0<|M0 [] Try.func27 Try.results27 (rT Y) ⟨Y,Y⟩
   ·refine sG 17 Y Y Y (dF h6) Y (dFA fa25_2 Y) Y<|sG 17 Y Y Y (dF h6) Y (dLd g23 Y Y) Y<|sG 17 Y Y Y (dF h6) Y (L4 Try.underlying23 Y) Y<|sG 17 Y Y Y (dF h6) Y (dLt Y Y) Y<|sQ (P0 Y (dF h6) Y) Y<|sM Y Y<|M3 (fun h7=>?_) (fun h7=>?_)
    ·refine sU 23 Y Y Y (dT h7) Y Y<|sU 23 Y Y Y (dT h7) Y Y<|sU 23 Y Y Y (dT h7) Y Y<|sU 23 Y Y Y (dT h7) Y Y<|sQ (G0 Y (dT h7) Y) Y<|j0<|M4 Y Y<|sSR Y<|sA Y Y<|j0<|M0 [] Try.func27 Try.results27 (rT Y) ⟨Y,Y⟩
    ·refine sG 23 Y Y Y (dF h7) Y (dFA fa25_2 Y) Y<|sG 23 Y Y Y (dF h7) Y (dLd g23 Y Y) Y<|sG 23 Y Y Y (dF h7) Y (L4 Try.underlying23 Y) Y<|sG 23 Y Y Y (dF h7) Y (dGt Y Y) Y<|sQ (P0 Y (dF h7) Y) Y<|j0<|P3 Y (fun h8=>?_) (fun h8=>?_)
     ·refine sSR Y<|sA Y Y<|j0<|M0 [] Try.func27 Try.results27 (rT Y) ⟨Y,Y⟩
     ·refine P1<|sSR Y<|sA Y Y<|sA Y Y<|j0<|W0<|sSR Y<|sQ (dFA fa25_2 Y) Y<|sQ (dLd g23 Y Y) Y<|sQ (L4 Try.underlying23 Y) Y<|sM Y Y<|j0<|G8 (V6.l0 K g1) (fun ((head9,all10,t11):(Int×Int×Int)) (_:Unit)=>([(1,.fptr ((cGrammar.e g1))),(3,Ai .i64 head9),(4,Ai .i64 all10),(40,Ai .i64 (g1.Rules.length:Int)),(41,Ai .i64 t11)]:Fr)) (fun ((head9,all10,t11):(Int×Int×Int)) (_:Unit)=>([]:List Res)) () (fun _=>Y) [] ⟨Y,Y,Y,Y,Y,trivial⟩ Y ?_ ?_
      ·rintro ⟨head9,all10,t11⟩ _
       refine sSR Y<|sQ (dFA fa25_2 Y) Y<|sQ (dLd g23 Y Y) Y<|V5 fun h20=>sQ (dIx Try.underlying23 z61 Y Y (by decide) h20) Y<|sQ (dFA fa61_0 Y) Y<|sQ (dLd g3 Y Y) Y<|sQ (dEq Y Y) Y<|sM Y Y<|M3 (fun h21=>?_) (fun h21=>?_)
       ·refine sG 6 Y Y Y (dT h21) Y (dMv Y) Y<|sG 6 Y Y Y (dT h21) Y (dFA fa25_1 Y) Y<|sG 6 Y Y Y (dT h21) Y (dLd g22 Y Y) Y<|sG 6 Y Y Y (dT h21) Y (L4 Try.underlying22 Y) Y<|sG 6 Y Y Y (dT h21) Y (mc Y Y) Y<|sG 6 Y Y Y (dT h21) Y (dEq Y Y) Y<|sQ (G0 Y (dT h21) Y) Y<|sA Y Y<|j0<|M0 [] Try.func27 Try.results27 (rT Y) ⟨Y,Y⟩
       ·refine sU 6 Y Y Y (dF h21) Y Y<|sU 6 Y Y Y (dF h21) Y Y<|sU 6 Y Y Y (dF h21) Y Y<|sU 6 Y Y Y (dF h21) Y Y<|sU 6 Y Y Y (dF h21) Y Y<|sU 6 Y Y Y (dF h21) Y Y<|sQ (P0 Y (dF h21) Y) Y<|sA Y Y<|j0<|M0 [] Try.func27 Try.results27 (rT Y) ⟨Y,Y⟩
      ·rintro m ⟨head9,all10,t11⟩ _ again0 out0
       refine sSR Y<|sQ (dLt Y Y) Y<|j0<|W0<|P3 Y (fun h12=>?_) (fun h12=>?_)
       ·refine P1<|W0<|J6<|sSR Y<|sM Y Y<|sA Y Y<|sES Y<|sQ (dFA fa25_2 Y) Y<|sQ (dLd g23 Y Y) Y<|sM Y Y<|V5 fun h13=>sQ (dIx Try.underlying23 z61 Y Y h13 h12) Y<|sA Y Y<|sES Y<|sM Y Y<|sQ (dFA fa25_1 Y) Y<|sQ (dLd g22 Y Y) Y<|sQ (L4 Try.underlying22 Y) Y<|j4 fun r14 e15=>sQ (J4 ent50 (wc K _ _) e15 (.s Y<|.s Y .nil)) Y<|sM Y Y<|sQ (dX Y Y) Y<|sQ (dX Y Y) Y<|sA Y Y<|sA Y Y<|j0<|W0<|sSR Y<|sM Y Y<|sQ (z8 Y) Y<|sM Y Y<|M3 (fun h16=>?_) (fun h16=>?_)
        ·refine sU 2 Y Y Y h16 Y Y<|sU 2 Y Y Y h16 Y Y<|sU 2 Y Y Y h16 Y Y<|sU 2 Y Y Y h16 Y Y<|sU 2 Y Y Y h16 Y Y<|sU 2 Y Y Y h16 Y Y<|sQ (G0 Y h16 Y) Y<|sM Y Y<|sU 10 Y Y Y Y Y Y<|sU 10 Y Y Y Y Y Y<|sU 10 Y Y Y Y Y Y<|sU 10 Y Y Y Y Y Y<|sU 10 Y Y Y Y Y Y<|sU 10 Y Y Y Y Y Y<|sU 10 Y Y Y Y Y Y<|sQ (G0 Y Y Y) Y<|j0<|M4 Y Y<|sSR Y<|sA Y Y<|j0<|y6<|M0 [] Try.func27 Try.results27 (rT Y) ⟨Y,Y⟩
        ·refine sG 2 Y Y Y (eF h16) Y (dMv Y) Y<|sG 2 Y Y Y (eF h16) Y (dNc ptF Y) Y<|sG 2 Y Y Y (eF h16) Y (dFA fa61_0 Y) Y<|sG 2 Y Y Y (eF h16) Y (dLd g3 Y Y) Y<|sG 2 Y Y Y (eF h16) Y (dMv Y) Y<|sG 2 Y Y Y (eF h16) Y (dLt Y Y) Y<|sQ (P0 Y (eF h16) Y) Y<|sM Y Y<|M3 (fun h17=>?_) (fun h17=>?_)
         ·refine sU 10 Y Y Y (dT h17) Y Y<|sU 10 Y Y Y (dT h17) Y Y<|sU 10 Y Y Y (dT h17) Y Y<|sU 10 Y Y Y (dT h17) Y Y<|sU 10 Y Y Y (dT h17) Y Y<|sU 10 Y Y Y (dT h17) Y Y<|sU 10 Y Y Y (dT h17) Y Y<|sQ (G0 Y (dT h17) Y) Y<|j0<|M4 Y Y<|sSR Y<|sA Y Y<|j0<|y6<|M0 [] Try.func27 Try.results27 (rT Y) ⟨Y,Y⟩
         ·refine sG 10 Y Y Y (dF h17) Y (dMv Y) Y<|sG 10 Y Y Y (dF h17) Y (dNc ptF Y) Y<|sG 10 Y Y Y (dF h17) Y (dFA fa61_0 Y) Y<|sG 10 Y Y Y (dF h17) Y (dLd g3 Y Y) Y<|sG 10 Y Y Y (dF h17) Y (dMv Y) Y<|sG 10 Y Y Y (dF h17) Y (L5 Y Y) Y<|sG 10 Y Y Y (dF h17) Y (dGt Y Y) Y<|sQ (P0 Y (dF h17) Y) Y<|j0<|P3 Y (fun h18=>?_) (fun h18=>?_)
          ·refine sSR Y<|sA Y Y<|j0<|y6<|M0 [] Try.func27 Try.results27 (rT Y) ⟨Y,Y⟩
          ·refine P1<|sSR Y<|sM Y Y<|sQ (dNc ptF Y) Y<|sQ (dFA fa61_0 Y) Y<|sQ (dLd g3 Y Y) Y<|sA Y Y<|sES Y<|sM Y Y<|sM Y Y<|sQ (L5 Y Y) Y<|sA Y Y<|sES Y<|sM Y Y<|sQ (dGt Y Y) Y<|j0<|P3 Y (fun h19=>?_) (fun h19=>?_)
           ·refine sSR Y<|sA Y Y<|j0<|y6<|M0 [] Try.func27 Try.results27 (rT Y) ⟨Y,Y⟩
           ·refine P1<|Q2<|y4 Y<|sQ (L5 Y Y) Y<|sM Y Y<|j0<|Q3 (again0 ((rd g1.Rules t11).Head,IntKind.wrap .i64 (all10+r14.1),IntKind.wrap .i64 (t11+1)) ()) [] ⟨Y,Y,Y,Y,Y,trivial⟩ Y
       ·refine W4 Y<|Q3 (out0 (head9,all10,t11) ()) [] ⟨Y,Y,Y,Y,Y,trivial⟩ Y
def seqs_Is (K:Nat) (g1:Grammar) (p2:Place):Option Bool:=if p2.Rule<0 then some false else if (g1.Rules.length:Int)≤p2.Rule then some false else if p2.Rule<(g1.Rules.length:Int) then if 0≤p2.Conj then if p2.Conj<(((rd g1.Rules p2.Rule).Conj).length:Int) then if 0≤p2.Pos then some (decide (p2.Pos≤(((rd ((rd g1.Rules p2.Rule).Conj) p2.Conj).Seq).length:Int))) else some false else some false else some false else none
theorem seqs_Is_ok (K:Nat) (g1:Grammar) (p2:Place):Pure Try.prog 30 [.fptr (cGrammar.e g1),.agg (cPlace.e p2)] (seqs_Is K g1 p2) (fun r=>Ab r):=by
 refine spec_of' Try.func30 rfl Try.ntmps30 (le_ rfl) ?_
 refine sSR Y<|sQ (P7 (az:=cPlace.e p2) Y cAgg) Y<|sA Y Y<|j0<|W0<|W0<|ga (fun h3=>?_) (fun h3=>?_)
 ·refine G6 13 mixed Y (by kernel_rfl) (by kernel_rfl) (by kernel_rfl) (.r (dFA fa55_0 Y) Y<|.r (dLd g3 Y Y) Y<|.r (dLt Y Y) Y<|.m Y Y<|.w 3 Y Y Y (dT h3) Y Y<|.w 3 Y Y Y (dT h3) Y Y<|.w 3 Y Y Y (dT h3) Y Y<|.w 3 Y Y Y (dT h3) Y Y<|.w 3 Y Y Y (dT h3) Y Y<|.w 3 Y Y Y (dT h3) Y Y<|.w 3 Y Y Y (dT h3) Y Y<|.w 3 Y Y Y (dT h3) Y Y<|.r (G0 Y (dT h3) Y) Y .n) Y<|j0<|M4 Y Y<|sSR Y<|sA Y Y<|j0<|M0 [] Try.func30 Try.results30 (rT Y) ⟨Y,Y⟩
 ·refine G6 13 mixed Y (by kernel_rfl) (by kernel_rfl) (by kernel_rfl) (.r (dFA fa55_0 Y) Y<|.r (dLd g3 Y Y) Y<|.r (dLt Y Y) Y<|.m Y Y<|.g 3 Y Y Y (dF h3) Y (dFA fa55_0 Y) Y<|.g 3 Y Y Y (dF h3) Y (dLd g3 Y Y) Y<|.g 3 Y Y Y (dF h3) Y (dMv Y) Y<|.g 3 Y Y Y (dF h3) Y (dNc ptF Y) Y<|.g 3 Y Y Y (dF h3) Y (dFA fa25_2 Y) Y<|.g 3 Y Y Y (dF h3) Y (dLd g23 Y Y) Y<|.g 3 Y Y Y (dF h3) Y (L4 Try.underlying23 Y) Y<|.g 3 Y Y Y (dF h3) Y (dGe Y Y) Y<|.r (P0 Y (dF h3) Y) Y .n) Y<|j0<|P3 Y (fun h4=>?_) (fun h4=>?_)
  ·refine sSR Y<|sA Y Y<|j0<|M0 [] Try.func30 Try.results30 (rT Y) ⟨Y,Y⟩
  ·refine P1<|W0<|sIf fun h5=>G6 8 mixed Y (by kernel_rfl) (by kernel_rfl) (by kernel_rfl) (.m Y Y<|.r (dNc ptF Y) Y<|.r (dFA fa25_2 Y) Y<|.r (dLd g23 Y Y) Y<|.r (dFA fa55_0 Y) Y<|.r (dLd g3 Y Y) Y<|.r (dIx Try.underlying23 z61 Y Y (Int.not_lt.1 h3) h5) Y<|.r (dAs Y) Y .n) Y<|j0<|W0<|ga (fun h6=>?_) (fun h6=>?_)
   ·refine ga (fun h7=>?_) (fun h7=>?_)
    ·refine ga (fun h8=>?_) (fun h8=>?_)
     ·refine G6 34 mixed Y (by kernel_rfl) (by kernel_rfl) (by kernel_rfl) (.r (dFA fa55_1 Y) Y<|.r (dLd g3 Y Y) Y<|.r (dGe Y Y) Y<|.m Y Y<|.g 3 Y Y Y (dT h6) Y (dFA fa55_1 Y) Y<|.g 3 Y Y Y (dT h6) Y (dLd g3 Y Y) Y<|.g 3 Y Y Y (dT h6) Y (dMv Y) Y<|.g 3 Y Y Y (dT h6) Y (dNc ptF Y) Y<|.g 3 Y Y Y (dT h6) Y (dFA fa61_1 Y) Y<|.g 3 Y Y Y (dT h6) Y (dLd g59 Y Y) Y<|.g 3 Y Y Y (dT h6) Y (L4 Try.underlying59 Y) Y<|.g 3 Y Y Y (dT h6) Y (dLt Y Y) Y<|.r (G0 Y (dT h6) Y) Y<|.m Y Y<|.g 13 Y Y Y (dT h7) Y (dFA fa55_2 Y) Y<|.g 13 Y Y Y (dT h7) Y (dLd g3 Y Y) Y<|.g 13 Y Y Y (dT h7) Y (dGe Y Y) Y<|.r (G0 Y (dT h7) Y) Y<|.m Y Y<|.g 18 Y Y Y (dT h8) Y (dFA fa55_2 Y) Y<|.g 18 Y Y Y (dT h8) Y (dLd g3 Y Y) Y<|.g 18 Y Y Y (dT h8) Y (dMv Y) Y<|.g 18 Y Y Y (dT h8) Y (dNc ptF Y) Y<|.g 18 Y Y Y (dT h8) Y (dFA fa61_1 Y) Y<|.g 18 Y Y Y (dT h8) Y (dLd g59 Y Y) Y<|.g 18 Y Y Y (dT h8) Y (dFA fa55_1 Y) Y<|.g 18 Y Y Y (dT h8) Y (dLd g3 Y Y) Y<|.g 18 Y Y Y (dT h8) Y (dIx Try.underlying59 z58 Y Y h6 h7) Y<|.g 18 Y Y Y (dT h8) Y (dFA fa58_1 Y) Y<|.g 18 Y Y Y (dT h8) Y (dLd g56 Y Y) Y<|.g 18 Y Y Y (dT h8) Y (L4 Try.underlying56 Y) Y<|.g 18 Y Y Y (dT h8) Y (dLe Y Y) Y<|.r (G0 Y (dT h8) Y) Y<|.r (dAs Y) Y .n) Y<|j0<|M0 [] Try.func30 Try.results30 (rT Y) ⟨Y,Y⟩
     ·refine G6 34 mixed Y (by kernel_rfl) (by kernel_rfl) (by kernel_rfl) (.r (dFA fa55_1 Y) Y<|.r (dLd g3 Y Y) Y<|.r (dGe Y Y) Y<|.m Y Y<|.g 3 Y Y Y (dT h6) Y (dFA fa55_1 Y) Y<|.g 3 Y Y Y (dT h6) Y (dLd g3 Y Y) Y<|.g 3 Y Y Y (dT h6) Y (dMv Y) Y<|.g 3 Y Y Y (dT h6) Y (dNc ptF Y) Y<|.g 3 Y Y Y (dT h6) Y (dFA fa61_1 Y) Y<|.g 3 Y Y Y (dT h6) Y (dLd g59 Y Y) Y<|.g 3 Y Y Y (dT h6) Y (L4 Try.underlying59 Y) Y<|.g 3 Y Y Y (dT h6) Y (dLt Y Y) Y<|.r (G0 Y (dT h6) Y) Y<|.m Y Y<|.g 13 Y Y Y (dT h7) Y (dFA fa55_2 Y) Y<|.g 13 Y Y Y (dT h7) Y (dLd g3 Y Y) Y<|.g 13 Y Y Y (dT h7) Y (dGe Y Y) Y<|.r (G0 Y (dT h7) Y) Y<|.m Y Y<|.w 18 Y Y Y (dF h8) Y Y<|.w 18 Y Y Y (dF h8) Y Y<|.w 18 Y Y Y (dF h8) Y Y<|.w 18 Y Y Y (dF h8) Y Y<|.w 18 Y Y Y (dF h8) Y Y<|.w 18 Y Y Y (dF h8) Y Y<|.w 18 Y Y Y (dF h8) Y Y<|.w 18 Y Y Y (dF h8) Y Y<|.w 18 Y Y Y (dF h8) Y Y<|.w 18 Y Y Y (dF h8) Y Y<|.w 18 Y Y Y (dF h8) Y Y<|.w 18 Y Y Y (dF h8) Y Y<|.w 18 Y Y Y (dF h8) Y Y<|.r (P0 Y (dF h8) Y) Y<|.r (dAs Y) Y .n) Y<|j0<|M0 [] Try.func30 Try.results30 (rT Y) ⟨Y,Y⟩
    ·refine G6 34 mixed Y (by kernel_rfl) (by kernel_rfl) (by kernel_rfl) (.r (dFA fa55_1 Y) Y<|.r (dLd g3 Y Y) Y<|.r (dGe Y Y) Y<|.m Y Y<|.g 3 Y Y Y (dT h6) Y (dFA fa55_1 Y) Y<|.g 3 Y Y Y (dT h6) Y (dLd g3 Y Y) Y<|.g 3 Y Y Y (dT h6) Y (dMv Y) Y<|.g 3 Y Y Y (dT h6) Y (dNc ptF Y) Y<|.g 3 Y Y Y (dT h6) Y (dFA fa61_1 Y) Y<|.g 3 Y Y Y (dT h6) Y (dLd g59 Y Y) Y<|.g 3 Y Y Y (dT h6) Y (L4 Try.underlying59 Y) Y<|.g 3 Y Y Y (dT h6) Y (dLt Y Y) Y<|.r (G0 Y (dT h6) Y) Y<|.m Y Y<|.w 13 Y Y Y (dF h7) Y Y<|.w 13 Y Y Y (dF h7) Y Y<|.w 13 Y Y Y (dF h7) Y Y<|.r (P0 Y (dF h7) Y) Y<|.m Y Y<|.w 18 Y Y Y Y Y Y<|.w 18 Y Y Y Y Y Y<|.w 18 Y Y Y Y Y Y<|.w 18 Y Y Y Y Y Y<|.w 18 Y Y Y Y Y Y<|.w 18 Y Y Y Y Y Y<|.w 18 Y Y Y Y Y Y<|.w 18 Y Y Y Y Y Y<|.w 18 Y Y Y Y Y Y<|.w 18 Y Y Y Y Y Y<|.w 18 Y Y Y Y Y Y<|.w 18 Y Y Y Y Y Y<|.w 18 Y Y Y Y Y Y<|.r (P0 Y Y Y) Y<|.r (dAs Y) Y .n) Y<|j0<|M0 [] Try.func30 Try.results30 (rT Y) ⟨Y,Y⟩
   ·refine G6 34 mixed Y (by kernel_rfl) (by kernel_rfl) (by kernel_rfl) (.r (dFA fa55_1 Y) Y<|.r (dLd g3 Y Y) Y<|.r (dGe Y Y) Y<|.m Y Y<|.w 3 Y Y Y (dF h6) Y Y<|.w 3 Y Y Y (dF h6) Y Y<|.w 3 Y Y Y (dF h6) Y Y<|.w 3 Y Y Y (dF h6) Y Y<|.w 3 Y Y Y (dF h6) Y Y<|.w 3 Y Y Y (dF h6) Y Y<|.w 3 Y Y Y (dF h6) Y Y<|.w 3 Y Y Y (dF h6) Y Y<|.r (P0 Y (dF h6) Y) Y<|.m Y Y<|.w 13 Y Y Y Y Y Y<|.w 13 Y Y Y Y Y Y<|.w 13 Y Y Y Y Y Y<|.r (P0 Y Y Y) Y<|.m Y Y<|.w 18 Y Y Y Y Y Y<|.w 18 Y Y Y Y Y Y<|.w 18 Y Y Y Y Y Y<|.w 18 Y Y Y Y Y Y<|.w 18 Y Y Y Y Y Y<|.w 18 Y Y Y Y Y Y<|.w 18 Y Y Y Y Y Y<|.w 18 Y Y Y Y Y Y<|.w 18 Y Y Y Y Y Y<|.w 18 Y Y Y Y Y Y<|.w 18 Y Y Y Y Y Y<|.w 18 Y Y Y Y Y Y<|.w 18 Y Y Y Y Y Y<|.r (P0 Y Y Y) Y<|.r (dAs Y) Y .n) Y<|j0<|M0 [] Try.func30 Try.results30 (rT Y) ⟨Y,Y⟩
def M9 (K:Nat) (p1:Place) (t2:Grammar):Option Bool:=(seqs_Is K t2 p1).bind fun r3=>some (!r3)
theorem Qb (K:Nat) (p1:Place) (t2:Grammar):Pure Try.prog 29 [.agg (cPlace.e p1),.fptr (cGrammar.e t2)] (M9 K p1 t2) (fun r=>Ab r):=by
 refine spec_of' Try.func29 rfl Try.ntmps29 (le_ rfl) ?_
 refine sSR Y<|sQ (P7 (az:=cPlace.e p1) Y cAgg) Y<|sA Y Y<|sES Y<|sQ (m7 g55 z55 Y (le_ Y)) Y<|j4 fun r3 e4=>sQ (J4 ent30 (seqs_Is_ok K _ _) e4 (.s Y<|.s Y .nil)) Y<|sQ (z8 Y) Y<|sA Y Y<|j0<|M0 [] Try.func29 Try.results29 (rT Y) ⟨Y,Y⟩
def slices_Clone_api_Place_api_Place (K:Nat) (s1:(List Place)):Option (List Place):=if (([]:List Place).length+s1.length)*24≤140737488355328 then some (([]:List Place)++s1) else none
theorem slices_Clone_api_Place_api_Place_ok (K:Nat) (s1:(List Place)):Fresh1 Try.prog 52 [.fsl cPlace s1] (slices_Clone_api_Place_api_Place K s1) (fun r v=>.sv v) (fun r v=>[.own 55 cPlace v r]):=by
 refine fresh_of Try.func52 rfl Try.ntmps52 (le_ rfl) ?_
 refine sSR Y<|sA Y Y<|j0<|W0<|sSR Y<|sM Y Y<|Jf Try.underlying26 Y Y fun u2 hu3=>j0<|?_
 cases u2
 ·refine w8 Y Y<|P1<|sSR Y<|sQ (dBS0 (c:=cPlace) Try.underlying26 z55 k7) Y<|sM Y Y<|sEsL 5 55 cPlace Y fun v5=>V5 fun h6=>sAp (j:=0) Try.underlying26 k7 Y Y Y Y h6 Y Y fun v7=>sA Y Y<|j0<|M0 [] Try.func52 Try.results52 (rT Y) ⟨_,Y,Y⟩
 ·obtain rfl:=hu3 rfl
  refine sTo (x':=some ([]:List Place)) ?_ ?_
  ·simp [slices_Clone_api_Place_api_Place]
  refine M4 Y Y<|sSR Y<|sA Y Y<|j0<|cc 2 55 cPlace Y fun v4=>M0 [] Try.func52 Try.results52 (rT Y) ⟨_,Y,Y⟩
def J8 (K:Nat) (g1:Grammar) (p2:Place):Option (Symbol×Bool):=if 0≤p2.Rule then if p2.Rule<(g1.Rules.length:Int) then if 0≤p2.Conj then if p2.Conj<(((rd g1.Rules p2.Rule).Conj).length:Int) then if p2.Pos=(((rd ((rd g1.Rules p2.Rule).Conj) p2.Conj).Seq).length:Int) then some ((⟨(0:Int),(0:Int),(0:Int)⟩:Symbol),false) else if 0≤p2.Pos then if p2.Pos<(((rd ((rd g1.Rules p2.Rule).Conj) p2.Conj).Seq).length:Int) then some ((⟨(rd ((rd ((rd g1.Rules p2.Rule).Conj) p2.Conj).Seq) p2.Pos).Name,(rd ((rd ((rd g1.Rules p2.Rule).Conj) p2.Conj).Seq) p2.Pos).Lo,(rd ((rd ((rd g1.Rules p2.Rule).Conj) p2.Conj).Seq) p2.Pos).Hi⟩:Symbol),true) else none else none else none else none else none else none
theorem aa (K:Nat) (g1:Grammar) (p2:Place):Pure Try.prog 53 [.fptr (cGrammar.e g1),.agg (cPlace.e p2)] (J8 K g1 p2) (fun r=>.tup [.agg (cSymbol.e r.1),Ab r.2]):=by
 refine spec_of' Try.func53 rfl Try.ntmps53 (le_ rfl) ?_
 refine sSR Y<|sQ (P7 (az:=cPlace.e p2) Y cAgg) Y<|Q6 (az:=[Ai .i64 (0:Int),Ai .i64 (0:Int),Ai .i64 (0:Int)]) al51 (fun _ _=>.cons Y (.cons Y (.cons Y .nil))) Y fun b3=>sA Y Y<|j0<|W0<|sIf fun h4=>sIf fun h5=>sIf fun h6=>sIf fun h7=>G6 15 mixed Y (by kernel_rfl) (by kernel_rfl) (by kernel_rfl) (.m Y Y<|.r (dNc ptF Y) Y<|.r (dFA fa25_2 Y) Y<|.r (dLd g23 Y Y) Y<|.r (dFA fa55_0 Y) Y<|.r (dLd g3 Y Y) Y<|.r (dIx Try.underlying23 z61 Y Y h4 h5) Y<|.r (dFA fa61_1 Y) Y<|.r (dLd g59 Y Y) Y<|.r (dFA fa55_1 Y) Y<|.r (dLd g3 Y Y) Y<|.r (dIx Try.underlying59 z58 Y Y h6 h7) Y<|.r (dFA fa58_1 Y) Y<|.r (dLd g56 Y Y) Y<|.r (dAs Y) Y .n) Y<|j0<|W0<|sSR Y<|sQ (dFA fa55_2 Y) Y<|sQ (dLd g3 Y Y) Y<|sM Y Y<|sQ (L4 Try.underlying56 Y) Y<|sQ (dEq Y Y) Y<|j0<|P3 Y (fun h8=>?_) (fun h8=>?_)
 ·refine sSR Y<|sQ (m5 (az:=[Ai .i64 (0:Int),Ai .i64 (0:Int),Ai .i64 (0:Int)]) Try.underlying51 zv51 pl51 (fun _ _=>.cons Y (.cons Y (.cons Y .nil))) (.nil)) Y<|L7 (j:=0) z51 Y Y Y cAgg ⟨(oLit Y),(oLit Y),(oLit Y),trivial⟩ Y (le_ Y)<|sA Y Y<|j0<|m8 [0] Try.func53 Try.results53 (rC (j:=0) g51 z51 Y Y Y) (rT Y) ⟨Y,Y⟩
 ·refine P1<|sSR Y<|sM Y Y<|sQ (dFA fa55_2 Y) Y<|sQ (dLd g3 Y Y) Y<|V5 fun h9=>V5 fun h10=>sQ (dIx Try.underlying56 z51 Y Y h9 h10) Y<|sQ (m7 g51 z51 Y (le_ Y)) Y<|L7 (j:=0) z51 Y Y Y cAgg ((cSymbol).one _) Y (le_ Y)<|sA Y Y<|j0<|m8 [0] Try.func53 Try.results53 (rC (j:=0) g51 z51 Y Y Y) (rT Y) ⟨Y,Y⟩
def k4.l1 (K:Nat) (g1:Grammar) (t6:Int):Nat→((List Place)×Int)→Option ((List Place)×Int)
 | 0,_=>none
 | m+1,(xs11,t12)=>if t12<(((rd g1.Rules t6).Conj).length:Int) then if (xs11.length+([(⟨t6,t12,(0:Int)⟩:Place)]:List Place).length)*24≤140737488355328 then k4.l1 K g1 t6 m (xs11++([(⟨t6,t12,(0:Int)⟩:Place)]:List Place),IntKind.wrap .i64 (t12+1)) else none else some (xs11,t12)
def k4.l0 (K:Nat) (g1:Grammar) (name2:Int):Nat→((List Place)×Int)→Option ((List Place)×Int)
 | 0,_=>none
 | m+1,(xs5,t6)=>if t6<(g1.Rules.length:Int) then if 0≤t6 then if ((rd g1.Rules t6).Head)≠name2 then k4.l0 K g1 name2 m (xs5,IntKind.wrap .i64 (t6+1)) else (k4.l1 K g1 t6 K (xs5,0)).bind fun (xs11,t12)=>k4.l0 K g1 name2 m (xs11,IntKind.wrap .i64 (t6+1)) else none else some (xs5,t6)
def k4 (K:Nat) (g1:Grammar) (name2:Int):Option (List Place):=(k4.l0 K g1 name2 K (([]:List Place),0)).bind fun (xs5,t6)=>some xs5
theorem ba (K:Nat) (g1:Grammar) (name2:Int):Fresh1 Try.prog 35 [.fptr (cGrammar.e g1),Ai .i64 name2] (k4 K g1 name2) (fun r v=>.sv v) (fun r v=>[.own 55 cPlace v r]):=by
 refine fresh_of Try.func35 rfl Try.ntmps35 (le_ rfl) ?_
 refine sSR Y<|sA Y Y<|sES Y<|sA Y Y<|j0<|W0<|sSR Y<|sM Y Y<|sQ (dNc ptF Y) Y<|sQ (dFA fa25_2 Y) Y<|sQ (dLd g23 Y Y) Y<|sQ (L4 Try.underlying23 Y) Y<|sM Y Y<|j0<|cc 5 55 cPlace Y fun v3=>sLo (k4.l0 K g1 name2) (fun ((xs5,t6):((List Place)×Int)) (v4:Value)=>([(0,.fptr ((cGrammar.e g1))),(1,Ai .i64 name2),(5,.sv v4),(12,Ai .i64 (g1.Rules.length:Int)),(13,Ai .i64 t6)]:Fr)) (fun ((xs5,t6):((List Place)×Int)) (v4:Value)=>([.own 55 cPlace v4 xs5]:List Res)) v3 (fun _=>Y) [] ⟨Y,Y,Y,Y,Y,trivial⟩ Y ?_ ?_
 ·rintro ⟨xs5,t6⟩ v4
  refine sSR Y<|sM Y Y<|sA Y Y<|j0<|M0 [] Try.func35 Try.results35 (rT Y) ⟨_,Y,Y⟩
 ·rintro m ⟨xs5,t6⟩ v4 again0 out0
  refine sSR Y<|sQ (dLt Y Y) Y<|j0<|W0<|P3 Y (fun h7=>?_) (fun h7=>?_)
  ·refine P1<|W0<|J6<|sSR Y<|sM Y Y<|sA Y Y<|j0<|W0<|sSR Y<|sM Y Y<|sQ (dNc ptF Y) Y<|sQ (dFA fa25_2 Y) Y<|sQ (dLd g23 Y Y) Y<|sM Y Y<|V5 fun h8=>sQ (dIx Try.underlying23 z61 Y Y h8 h7) Y<|sQ (dFA fa61_0 Y) Y<|sQ (dLd g3 Y Y) Y<|sM Y Y<|sQ (dNe Y Y) Y<|j0<|P3 Y (fun h9=>?_) (fun h9=>?_)
   ·refine W4 Y<|y4 Y<|sQ (L5 Y Y) Y<|sM Y Y<|j0<|Q3 (again0 (xs5,IntKind.wrap .i64 (t6+1)) v4) [0] ⟨Y,Y,Y,Y,Y,trivial⟩ Y
   ·refine P1<|sSR Y<|sM Y Y<|sQ (dNc ptF Y) Y<|sQ (dFA fa25_2 Y) Y<|sQ (dLd g23 Y Y) Y<|sM Y Y<|sQ (dIx Try.underlying23 z61 Y Y h8 h7) Y<|sQ (dFA fa61_1 Y) Y<|sQ (dLd g59 Y Y) Y<|sQ (L4 Try.underlying59 Y) Y<|sM Y Y<|j0<|sLo (k4.l1 K g1 t6) (fun ((xs11,t12):((List Place)×Int)) (v10:Value)=>([(0,.fptr ((cGrammar.e g1))),(1,Ai .i64 name2),(5,.sv v10),(6,Ai .i64 t6),(12,Ai .i64 (g1.Rules.length:Int)),(13,Ai .i64 t6),(34,Ai .i64 (((rd g1.Rules t6).Conj).length:Int)),(35,Ai .i64 t12)]:Fr)) (fun ((xs11,t12):((List Place)×Int)) (v10:Value)=>([.own 55 cPlace v10 xs11]:List Res)) v4 (fun _=>Y) [] ⟨Y,Y,Y,Y,Y,Y,Y,Y,trivial⟩ Y ?_ ?_
    ·rintro ⟨xs11,t12⟩ v10
     refine Q2<|y4 Y<|sQ (L5 Y Y) Y<|sM Y Y<|j0<|Q3 (again0 (xs11,IntKind.wrap .i64 (t6+1)) v10) [0] ⟨Y,Y,Y,Y,Y,trivial⟩ Y
    ·rintro m ⟨xs11,t12⟩ v10 again1 out1
     refine sSR Y<|sQ (dLt Y Y) Y<|j0<|W0<|P3 Y (fun h13=>?_) (fun h13=>?_)
     ·refine P1<|W0<|J6<|sSR Y<|sM Y Y<|sA Y Y<|j0<|y4 Y<|sM Y Y<|sM Y Y<|sM Y Y<|sQ (m5 (az:=[Ai .i64 (0:Int),Ai .i64 (0:Int),Ai .i64 (0:Int)]) Try.underlying55 zv55 pl55 (fun _ _=>.cons Y (.cons Y (.cons Y .nil))) (.c Y Y (cOne (oLit Y)) Y Y (.c Y Y (cOne (oLit Y)) Y Y .nil))) Y<|sQ (dBS (c:=cPlace) (xs:=([(⟨t6,t12,(0:Int)⟩:Place)]:List Place)) Try.underlying26 z55 k7 (.c Y cAgg .nil) Y) Y<|V5 fun h14=>sAp (j:=0) Try.underlying26 k7 Y Y Y Y h14 Y Y fun v15=>sA Y Y<|j0<|Q2<|y4 Y<|sQ (L5 Y Y) Y<|sM Y Y<|j0<|Q3 (again1 (xs11++([(⟨t6,t12,(0:Int)⟩:Place)]:List Place),IntKind.wrap .i64 (t12+1)) v15) [0] ⟨Y,Y,Y,Y,Y,Y,Y,Y,trivial⟩ Y
     ·refine W4 Y<|Q3 (out1 (xs11,t12) v10) [0] ⟨Y,Y,Y,Y,Y,Y,Y,Y,trivial⟩ Y
  ·refine W4 Y<|Q3 (out0 (xs5,t6) v4) [0] ⟨Y,Y,Y,Y,Y,trivial⟩ Y
def cmp_isNaN_int (K:Nat) (x1:Int):Option Bool:=some (decide (x1≠x1))
theorem cmp_isNaN_int_ok (K:Nat) (x1:Int):Pure Try.prog 79 [Ai .i64 x1] (cmp_isNaN_int K x1) (fun r=>Ab r):=by
 refine spec_of' Try.func79 rfl Try.ntmps79 (le_ rfl) ?_
 refine sSR Y<|sA Y Y<|sES Y<|sM Y Y<|sM Y Y<|sQ (dNe Y Y) Y<|sA Y Y<|j0<|M0 [] Try.func79 Try.results79 (rT Y) ⟨Y,Y⟩
def cmp_Compare_int (K:Nat) (x1:Int) (y2:Int):Option Int:=(cmp_isNaN_int K x1).bind fun r3=>(cmp_isNaN_int K y2).bind fun r5=>if r3=true then if r5=true then some 0 else some (-1) else if r5=true then some 1 else if x1<y2 then some (-1) else if y2<x1 then some 1 else some 0
theorem cmp_Compare_int_ok (K:Nat) (x1:Int) (y2:Int):Pure Try.prog 72 [Ai .i64 x1,Ai .i64 y2] (cmp_Compare_int K x1 y2) (fun r=>Ai .i64 r):=by
 refine spec_of' Try.func72 rfl Try.ntmps72 (le_ rfl) ?_
 refine sSR Y<|sA Y Y<|sES Y<|sM Y Y<|j4 fun r3 e4=>sQ (J4 ent79 (cmp_isNaN_int_ok K _) e4 (.s Y .nil)) Y<|sA Y Y<|sES Y<|sM Y Y<|j4 fun r5 e6=>sQ (J4 ent79 (cmp_isNaN_int_ok K _) e6 (.s Y .nil)) Y<|sA Y Y<|j0<|W0<|sSR Y<|sM Y Y<|j0<|k6 Y (fun h7=>?_) (fun h7=>?_)
 ·refine W0<|sSR Y<|sM Y Y<|j0<|k6 Y (fun h8=>?_) (fun h8=>?_)
  ·refine sSR Y<|sA Y Y<|j0<|M0 [] Try.func72 Try.results72 (rT Y) ⟨Y,Y⟩
  ·refine P1<|sSR Y<|sA Y Y<|j0<|M0 [] Try.func72 Try.results72 (rT Y) ⟨Y,Y⟩
 ·refine P1<|W0<|sSR Y<|sM Y Y<|j0<|k6 Y (fun h9=>?_) (fun h9=>?_)
  ·refine sSR Y<|sA Y Y<|j0<|M0 [] Try.func72 Try.results72 (rT Y) ⟨Y,Y⟩
  ·refine P1<|W0<|sSR Y<|sM Y Y<|sM Y Y<|sQ (dLt Y Y) Y<|j0<|P3 Y (fun h10=>?_) (fun h10=>?_)
   ·refine sSR Y<|sA Y Y<|j0<|M0 [] Try.func72 Try.results72 (rT Y) ⟨Y,Y⟩
   ·refine P1<|W0<|sSR Y<|sM Y Y<|sM Y Y<|sQ (dGt Y Y) Y<|j0<|P3 Y (fun h11=>?_) (fun h11=>?_)
    ·refine sSR Y<|sA Y Y<|j0<|M0 [] Try.func72 Try.results72 (rT Y) ⟨Y,Y⟩
    ·refine P1<|sSR Y<|sA Y Y<|j0<|M0 [] Try.func72 Try.results72 (rT Y) ⟨Y,Y⟩
def cmp_Or_int.l0 (K:Nat) (vals1:(List Int)):Nat→Int→Option (Int ⊕ Int)
 | 0,_=>none
 | m+1,t2=>if t2<(vals1.length:Int) then if 0≤t2 then if (rd vals1 t2)≠0 then some (.inr (rd vals1 t2)) else cmp_Or_int.l0 K vals1 m (IntKind.wrap .i64 (t2+1)) else none else some (.inl t2)
def cmp_Or_int (K:Nat) (vals1:(List Int)):Option Int:=brk (cmp_Or_int.l0 K vals1 K 0) fun t2=>some 0
theorem cmp_Or_int_ok (K:Nat) (vals1:(List Int)):Pure Try.prog 71 [.fsl (cI .i64) vals1] (cmp_Or_int K vals1) (fun r=>Ai .i64 r):=by
 refine spec_of' Try.func71 rfl Try.ntmps71 (le_ rfl) ?_
 refine sSR Y<|sA Y Y<|sES Y<|sA Y Y<|j0<|W0<|sSR Y<|sM Y Y<|sQ (L4 Try.underlying132 Y) Y<|sM Y Y<|j0<|G8 (cmp_Or_int.l0 K vals1) (fun (t2:Int) (_:Unit)=>([(3,Ai .i64 0),(6,.fsl (cI .i64) vals1),(7,Ai .i64 (vals1.length:Int)),(8,Ai .i64 t2)]:Fr)) (fun (t2:Int) (_:Unit)=>([]:List Res)) () (fun _=>Y) [] ⟨Y,Y,Y,Y,trivial⟩ Y ?_ ?_
 ·rintro t2 _
  refine sSR Y<|sM Y Y<|sA Y Y<|j0<|M0 [] Try.func71 Try.results71 (rT Y) ⟨Y,Y⟩
 ·rintro m t2 _ again0 out0
  refine sSR Y<|sQ (dLt Y Y) Y<|j0<|W0<|P3 Y (fun h3=>?_) (fun h3=>?_)
  ·refine P1<|W0<|J6<|sSR Y<|V5 fun h4=>sQ (dIx Try.underlying132 z3 Y Y h4 h3) Y<|sQ (dLd g3 Y Y) Y<|sA Y Y<|sES Y<|sM Y Y<|sM Y Y<|sQ (dNe Y Y) Y<|j0<|P3 Y (fun h5=>?_) (fun h5=>?_)
   ·refine sSR Y<|sM Y Y<|sA Y Y<|j0<|y6<|M0 [] Try.func71 Try.results71 (rT Y) ⟨Y,Y⟩
   ·refine P1<|Q2<|y4 Y<|sQ (L5 Y Y) Y<|sM Y Y<|j0<|Q3 (again0 (IntKind.wrap .i64 (t2+1)) ()) [] ⟨Y,Y,Y,Y,trivial⟩ Y
  ·refine W4 Y<|Q3 (out0 t2 ()) [] ⟨Y,Y,Y,Y,trivial⟩ Y
def zb (K:Nat) (a1:Place) (b2:Place):Option Int:=(cmp_Compare_int K a1.Rule b2.Rule).bind fun r3=>(cmp_Compare_int K a1.Conj b2.Conj).bind fun r5=>(cmp_Compare_int K a1.Pos b2.Pos).bind fun r7=>(cmp_Or_int K ([r3,r5,r7]:List Int)).bind fun r9=>some r9
theorem vc (K:Nat) (a1:Place) (b2:Place):Pure Try.prog 56 [.agg (cPlace.e a1),.agg (cPlace.e b2)] (zb K a1 b2) (fun r=>Ai .i64 r):=by
 refine spec_of' Try.func56 rfl Try.ntmps56 (le_ rfl) ?_
 refine sSR Y<|sQ (P7 (az:=cPlace.e a1) Y cAgg) Y<|sQ (P7 (az:=cPlace.e b2) Y cAgg) Y<|sA Y Y<|j0<|W0<|Ga fun r3 e4=>Ga fun r5 e6=>Ga fun r7 e8=>Ga fun r9 e10=>G6 18 mixed Y (by kernel_rfl) (by kernel_rfl) (by kernel_rfl) (.r (dFA fa55_0 Y) Y<|.r (dLd g3 Y Y) Y<|.r (dFA fa55_0 Y) Y<|.r (dLd g3 Y Y) Y<|.r (J4 ent72 (cmp_Compare_int_ok K _ _) e4 (.s Y<|.s Y .nil)) Y<|.r (dFA fa55_1 Y) Y<|.r (dLd g3 Y Y) Y<|.r (dFA fa55_1 Y) Y<|.r (dLd g3 Y Y) Y<|.r (J4 ent72 (cmp_Compare_int_ok K _ _) e6 (.s Y<|.s Y .nil)) Y<|.r (dFA fa55_2 Y) Y<|.r (dLd g3 Y Y) Y<|.r (dFA fa55_2 Y) Y<|.r (dLd g3 Y Y) Y<|.r (J4 ent72 (cmp_Compare_int_ok K _ _) e8 (.s Y<|.s Y .nil)) Y<|.r (dBS (c:=(cI .i64)) (xs:=([r3,r5,r7]:List Int)) Try.underlying132 z3 vg (.c Y (cOne (oLit Y)) (.c Y (cOne (oLit Y)) (.c Y (cOne (oLit Y)) .nil))) Y) Y<|.r (J4 ent71 (cmp_Or_int_ok K _) e10 (.s Y .nil)) Y<|.r (dAs Y) Y .n) Y<|j0<|M0 [] Try.func56 Try.results56 (rT Y) ⟨Y,Y⟩
open Go.Shelf
def sort69_ren:Go.Shelf.Ren:=⟨fun | 6=>69 | 15=>78 | 14=>77 | 28=>88 | 29=>89 | 20=>80 | 21=>81 | 22=>82 | 23=>83 | 24=>84 | 25=>85 | 26=>86 | 27=>87 | 46=>90 | 47=>91 | 48=>92 | 49=>93 | 50=>94 | 57=>95 | n=>n,fun | 22=>26 | 24=>55 | 25=>108 | 3=>3 | 39=>128 | 0=>0 | 53=>142 | 55=>144 | 4=>4 | 46=>136 | 45=>135 | 50=>90 | 5=>5 | 9=>9 | 66=>145 | 70=>149 | 76=>151 | 77=>152 | n=>n,fun | n=>n⟩
theorem sort69:SlLaysF0.n6 Try.prog sort69_ren:={
 mixed:=by kernel_rfl
 f6:=⟨Try.f69.name,by decide,Try.func69.trans (congrArg some (by kernel_rfl))⟩
 f14:=⟨Try.f77.name,by decide,Try.func77.trans (congrArg some (by kernel_rfl))⟩
 f15:=Try.func78.trans (congrArg some (by kernel_rfl))
 f20:=⟨Try.f80.name,by decide,Try.func80.trans (congrArg some (by kernel_rfl))⟩
 f21:=⟨Try.f81.name,by decide,Try.func81.trans (congrArg some (by kernel_rfl))⟩
 f22:=⟨Try.f82.name,by decide,Try.func82.trans (congrArg some (by kernel_rfl))⟩
 f23:=⟨Try.f83.name,by decide,Try.func83.trans (congrArg some (by kernel_rfl))⟩
 f24:=⟨Try.f84.name,by decide,Try.func84.trans (congrArg some (by kernel_rfl))⟩
 f25:=⟨Try.f85.name,by decide,Try.func85.trans (congrArg some (by kernel_rfl))⟩
 f26:=⟨Try.f86.name,by decide,Try.func86.trans (congrArg some (by kernel_rfl))⟩
 f27:=⟨Try.f87.name,by decide,Try.func87.trans (congrArg some (by kernel_rfl))⟩
 f28:=Try.func88.trans (congrArg some (by kernel_rfl))
 f29:=Try.func89.trans (congrArg some (by kernel_rfl))
 f46:=⟨Try.f90.name,by decide,Try.func90.trans (congrArg some (by kernel_rfl))⟩
 f47:=Try.func91.trans (congrArg some (by kernel_rfl))
 f48:=Try.func92.trans (congrArg some (by kernel_rfl))
 f49:=⟨Try.f93.name,by decide,Try.func93.trans (congrArg some (by kernel_rfl))⟩
 f50:=⟨Try.f94.name,by decide,Try.func94.trans (congrArg some (by kernel_rfl))⟩
 f57:=⟨Try.f95.name,by decide,Try.func95.trans (congrArg some (by kernel_rfl))⟩
 t0:=Try.underlying0
 a0:=Try.isAgg0
 z0:=Try.sizeOf0
 v0:=Try.zeroValue0
 t3:=Try.underlying3
 a3:=Try.isAgg3
 z3:=Try.sizeOf3
 v3:=Try.zeroValue3
 t4:=Try.underlying4
 a4:=Try.isAgg4
 z4:=Try.sizeOf4
 v4:=Try.zeroValue4
 t5:=Try.underlying5
 a5:=Try.isAgg5
 z5:=Try.sizeOf5
 v5:=Try.zeroValue5
 t9:=Try.underlying9
 a9:=Try.isAgg9
 z9:=Try.sizeOf9
 v9:=Try.zeroValue9
 t22:=Try.underlying26
 a22:=Try.isAgg26
 z22:=Try.sizeOf26
 v22:=Try.zeroValue26
 t25:=Try.underlying108
 a25:=Try.isAgg108
 z25:=Try.sizeOf108
 v25:=Try.zeroValue108
 t39:=Try.underlying128
 a39:=Try.isAgg128
 z39:=Try.sizeOf128
 v39:=Try.zeroValue128
 t45:=Try.underlying135
 a45:=Try.isAgg135
 z45:=Try.sizeOf135
 v45:=Try.zeroValue135
 t46:=Try.underlying136
 a46:=Try.isAgg136
 z46:=Try.sizeOf136
 v46:=Try.zeroValue136
 t50:=Try.underlying90
 a50:=Try.isAgg90
 z50:=Try.sizeOf90
 v50:=Try.zeroValue90
 t53:=Try.underlying142
 a53:=Try.isAgg142
 z53:=Try.sizeOf142
 v53:=Try.zeroValue142
 t55:=Try.underlying144
 a55:=Try.isAgg144
 z55:=Try.sizeOf144
 v55:=Try.zeroValue144
 t66:=Try.underlying145
 a66:=Try.isAgg145
 z66:=Try.sizeOf145
 v66:=Try.zeroValue145
 t70:=Try.underlying149
 a70:=Try.isAgg149
 z70:=Try.sizeOf149
 v70:=Try.zeroValue149
 t76:=Try.underlying151
 a76:=Try.isAgg151
 z76:=Try.sizeOf151
 v76:=Try.zeroValue151
 t77:=Try.underlying152
 a77:=Try.isAgg152
 z77:=Try.sizeOf152
 v77:=Try.zeroValue152 }
end Go.Proofs.Ytgmnohjaciemmaa

namespace Go.Proofs.Ytgmnohjaciemmaa
set_option linter.unusedSimpArgs false
open S Go.Sort
set_option linter.unusedVariables false
def rowP (a b:Place):Int:=if a.Rule<b.Rule then -1 else if b.Rule<a.Rule then 1 else if a.Conj<b.Conj then -1 else if b.Conj<a.Conj then 1 else if a.Pos<b.Pos then -1 else if b.Pos<a.Pos then 1 else 0
theorem compare_eq (K:Nat) (x y:Int):cmp_Compare_int K x y=some (if x<y then -1 else if y<x then 1 else 0):=by
 unfold cmp_Compare_int cmp_isNaN_int
 simp only [Option.bind_some]
 by_cases h1:x<y
 ·simp [h1]
 ·by_cases h2:y<x <;> simp [h1,h2]
theorem or_eq (K:Nat) (hK:10≤K) (a b c:Int):cmp_Or_int K [a,b,c]=some (if a≠0 then a else if b≠0 then b else c):=by
 obtain ⟨m,rfl⟩:∃ m,K=m+4:=⟨K-4,by omega⟩
 have r0:rd [a,b,c] 0=a:=rfl
 have r1:rd [a,b,c] 1=b:=rfl
 have r2:rd [a,b,c] 2=c:=rfl
 have l3:(([a,b,c]:List Int).length:Int)=3:=rfl
 have z0:∀ q n,cmp_Or_int.l0 q [a,b,c] (n+1) 0=if a≠0 then some (.inr a) else cmp_Or_int.l0 q [a,b,c] n 1:=fun q n=>by
  simp only [cmp_Or_int.l0]
  rw [l3,if_pos (show (0:Int)<3 by omega),if_pos (show (0:Int)≤0 by omega),r0,wr (a:=0+1) (by omega) (by omega)];rfl
 have z1:∀ q n,cmp_Or_int.l0 q [a,b,c] (n+1) 1=if b≠0 then some (.inr b) else cmp_Or_int.l0 q [a,b,c] n 2:=fun q n=>by
  simp only [cmp_Or_int.l0]
  rw [l3,if_pos (show (1:Int)<3 by omega),if_pos (show (0:Int)≤1 by omega),r1,wr (a:=1+1) (by omega) (by omega)];rfl
 have z2:∀ q n,cmp_Or_int.l0 q [a,b,c] (n+1) 2=if c≠0 then some (.inr c) else cmp_Or_int.l0 q [a,b,c] n 3:=fun q n=>by
  simp only [cmp_Or_int.l0]
  rw [l3,if_pos (show (2:Int)<3 by omega),if_pos (show (0:Int)≤2 by omega),r2,wr (a:=2+1) (by omega) (by omega)];rfl
 have z3:∀ q n,cmp_Or_int.l0 q [a,b,c] (n+1) 3=some (.inl 3):=fun q n=>by
  simp only [cmp_Or_int.l0]
  rw [l3,if_neg (show ¬ (3:Int)<3 by omega)]
 unfold cmp_Or_int
 rw [z0 (m+4) (m+3)]
 by_cases ha:a=0
 ·rw [if_neg (show ¬ a≠0 from fun h=>h ha),if_neg (show ¬ a≠0 from fun h=>h ha),z1 (m+4) (m+2)]
  by_cases hb:b=0
  ·rw [if_neg (show ¬ b≠0 from fun h=>h hb),if_neg (show ¬ b≠0 from fun h=>h hb),z2 (m+4) (m+1)]
   by_cases hc:c=0
   ·rw [if_neg (show ¬ c≠0 from fun h=>h hc),z3 (m+4) m,hc];rfl
   ·rw [if_pos hc];rfl
  ·rw [if_pos hb,if_pos hb];rfl
 ·rw [if_pos ha,if_pos ha];rfl
theorem rowP_eq (K:Nat) (hK:10≤K) (a b:Place):zb K a b=some (rowP a b):=by
 unfold zb rowP
 rw [compare_eq,Option.bind_some,compare_eq,Option.bind_some,compare_eq,Option.bind_some,or_eq K hK,Option.bind_some]
 cases a with | mk a1 a2 a3=>cases b with | mk b1 b2 b3 =>
 simp only
 by_cases h1:a1<b1
 ·simp [h1]
 by_cases h2:b1<a1
 ·simp [h1,h2]
 by_cases h3:a2<b2
 ·simp [h1,h2,h3]
 by_cases h4:b2<a2
 ·simp [h1,h2,h3,h4]
 simp [h1,h2,h3,h4]
theorem rowP_lt (a b:Place):ltOf rowP a b=true↔a.Rule<b.Rule∨(a.Rule=b.Rule∧(a.Conj<b.Conj∨(a.Conj=b.Conj∧a.Pos<b.Pos))):=by
 unfold ltOf rowP
 rw [decide_eq_true_iff]
 cases a with | mk a1 a2 a3=>cases b with | mk b1 b2 b3 =>
 simp only
 by_cases h1:a1<b1
 ·simp [h1]
 by_cases h2:b1<a1
 ·simp [h1,h2];omega
 have e1:a1=b1:=by omega
 by_cases h3:a2<b2
 ·simp [h1,h2,h3,e1]
 by_cases h4:b2<a2
 ·simp [h1,h2,h3,h4,e1];omega
 have e2:a2=b2:=by omega
 by_cases h5:a3<b3
 ·simp [h1,h2,h3,h4,h5,e1,e2]
 by_cases h6:b3<a3
 ·simp [h1,h2,h3,h4,h5,h6,e1,e2]
 simp [h1,h2,h3,h4,h5,h6,e1,e2]
theorem rowP_nlt (a b:Place):ltOf rowP a b=false↔¬ (a.Rule<b.Rule∨(a.Rule=b.Rule∧(a.Conj<b.Conj∨(a.Conj=b.Conj∧a.Pos<b.Pos)))):=by
 rw [← rowP_lt,Bool.not_eq_true]
theorem rowP_swo:SWO (ltOf rowP) where
 irrefl x:=by rw [rowP_nlt];omega
 trans x y z h1 h2:=by rw [rowP_lt] at *;omega
 ntrans x y z h1 h2:=by rw [rowP_nlt] at *;omega
theorem rowP_anti (x y:Place) (h1:ltOf rowP x y=false) (h2:ltOf rowP y x=false):x=y:=by
 rw [rowP_nlt] at *
 cases x with | mk a1 a2 a3=>cases y with | mk b1 b2 b3 =>
 simp only [Place.mk.injEq] at *
 omega
end Go.Proofs.Ytgmnohjaciemmaa

namespace Go.Proofs.Ytgmnohjaciemmaa
open S
set_option linter.unusedVariables false
set_option maxRecDepth 100000
theorem cLits {κ:Type} {c:Co κ} {lits:κ→List Value} (hl:∀ x,c.e x=(lits x).map AV.lit) (k:κ):CellsOf (.lit (.agg (lits k).toArray)) (c.e k):=fun Z w v hv=>by
 have hv':v = .agg (lits k).toArray:=hv
 subst hv'
 rw [hl]
 simpa [Value.cells] using allP_of_lits (Z:=Z) (w:=w) (lits k)
theorem kgM54:IsAgg Try.prog 100 false:=fun _=>by kernel_rfl
theorem kgS54:IsAgg Try.prog 26 false:=fun _=>by kernel_rfl
theorem kgE54:IsAgg Try.prog 55 true:=fun _=>by kernel_rfl
theorem kzS54:SizeIs Try.prog 26 1:=fun _=>by kernel_rfl
theorem kzE54:SizeIs Try.prog 55 3:=fun _=>by kernel_rfl
theorem kinfo54:Info Try.prog 55 (.agg #[.int .i64 0,.int .i64 0,.int .i64 0]) 3 24:=by unfold Info;kernel_rfl
theorem kal54:∀ w,(Instr.alloc 55 true (.tuple #[])).run Try.prog w = .ok (.pointer (some ⟨w.heap.size,0,none⟩)) (w.alloc (.cells ([.int .i64 0,.int .i64 0,.int .i64 0]:List Value).toArray 55)):=fun _=>by kernel_rfl
theorem kty54:KeysTy Try.prog cPlace kvPlace (fun x:Bool=>Value.bool x) 100 55 4 26 [.int .i64 0,.int .i64 0,.int .i64 0] [Ai .i64 0,Ai .i64 0,Ai .i64 0] (.agg #[.int .i64 0,.int .i64 0,.int .i64 0]) 24:={
 ht:=Try.underlying100,gM:=kgM54,hS:=Try.underlying26,gS:=kgS54,zS:=kzS54,gE:=kgE54,zE:=kzE54,info:=kinfo54,zz:=rfl,b0:=(by decide),mx:=rfl,al:=kal54,
 azp:=fun _ _=>.cons rfl (.cons rfl (.cons rfl .nil)),azl:=rfl,cell:=cLits (lits:=litsPlace) (fun _=>rfl) }
theorem kent70:Ent Try.prog 70:=fun _ _=>by kernel_rfl
theorem kent76:Ent Try.prog 76:=fun _ _=>by kernel_rfl
theorem kent68:Ent Try.prog 68:=fun _ _=>by kernel_rfl
theorem kent69:Ent Try.prog 69:=fun _ _=>by kernel_rfl
theorem kent56:Ent Try.prog 56:=fun _ _=>by kernel_rfl
theorem kit70 {Bs l b:Nat} {rec:Loop} {v:Value} {es:List (Place×Bool)} (hbd:es.length*24≤140737488355328) (A:ApRec 26 55 Bs rec):S.Spec Try.prog 70 [.lit (.func (.yield l) #[] #[]),.fptr [.lit (.map (some b))]] [.mp kvPlace (fun x:Bool=>Value.bool x) b es,.box Bs [.sv v],.own 55 cPlace v [],.obj l (.loop rec)]
  fun _ H=>∃ v' ss,ss.Perm (es.map (·.1))∧H=[.mp kvPlace (fun x:Bool=>Value.bool x) b es,.box Bs [.sv v'],.own 55 cPlace v' ss,.obj l (.loop rec)]:=keysIter kty54 A hbd Try.func70 rfl rfl rfl
theorem kap76 {b:Nat} {es:List (Place×Bool)} (hbd:es.length*24≤140737488355328):S.Spec Try.prog 76 [.lit (.slice none 0 0),.keys 70 b] [.mp kvPlace (fun x:Bool=>Value.bool x) b es] (KeysPost 55 cPlace kvPlace (fun x:Bool=>Value.bool x) b es):=appendSeq kty54 kent70 (fun A=>kit70 hbd A) Try.func76 rfl rfl rfl
theorem kco68 {b:Nat} {es:List (Place×Bool)} (hbd:es.length*24≤140737488355328):S.Spec Try.prog 68 [.keys 70 b] [.mp kvPlace (fun x:Bool=>Value.bool x) b es] (KeysPost 55 cPlace kvPlace (fun x:Bool=>Value.bool x) b es):=collectFn kent76 (kap76 hbd) Try.func68 rfl rfl rfl
theorem keys55 {b:Nat}:Pure Try.prog 55 [.lit (.map (some b))] (some ()) fun _=>.keys 70 b:=keysFn Try.func55 rfl rfl rfl
theorem kcmp56 (x y:Place):Pure Try.prog 56 [.agg (cPlace.e x),.agg (cPlace.e y)] (some (rowP x y)) fun r=>Ai .i64 r:=by
 have h:=vc 10 x y
 rw [rowP_eq 10 (Nat.le_refl _)] at h
 exact h
theorem kone55 (x:Place):∀ v ∈ litsPlace x,v.oneCell'=true:=by intro v hv;simp [litsPlace] at hv;rcases hv with rfl | rfl | rfl <;> rfl
theorem sorted54 {K b:Nat} {es:List (Place×Bool)} (_:10≤K) (hbd:es.length*24≤140737488355328):Hands Try.prog 54 [.keys 70 b,.lit (.func (.func 56) #[] #[])] [.mp kvPlace (fun x:Bool=>Value.bool x) b es] (some ()) (fun _ v=>.sv v) (fun _ v=>[.own 55 cPlace v (sortL rowP (es.map (·.1))),.mp kvPlace (fun x:Bool=>Value.bool x) b es]):=by
 intro r _ w F Z vs hvs hi
 refine (sortedFn (Sd:=SortedBy rowP) kent68 kent69 (kco68 hbd) (fun v ss hp=>sortFn sort69 (c:=cPlace) (lits:=litsPlace) (fun _=>rfl) kone55 kgE54 kzE54 rowP_swo kent56 kcmp56 (by have:=hp.length_eq;simp at this;omega)) Try.func54 rfl rfl rfl w F Z vs hvs hi).mono ?_
 rintro e w' ⟨v,he,F',Z',av,H',⟨v1,ys,rfl,hp,hs,rfl⟩,h1,h2⟩
 exact ⟨v,he,F',Z',_,_,⟨v1,rfl,by rw [sortL_is rowP_swo rowP_anti hp hs]⟩,h1,h2⟩
set_option maxHeartbeats 4000000
def Q4.l0 (K:Nat) (g1:Grammar):Nat→((List Place)×(List (Int×Bool))×(List (Place×Bool)))→Option ((List Place)×(List (Int×Bool))×(List (Place×Bool)))
 | 0,_=>none
 | m+1,(xs9,c10,c11)=>if 0<(xs9.length:Int) then if 0≤IntKind.wrap .i64 ((xs9.length:Int)-1) then if IntKind.wrap .i64 ((xs9.length:Int)-1)<(xs9.length:Int) then if IntKind.wrap .i64 ((xs9.length:Int)-1)≤(xs9.length:Int) then (J8 K g1 (⟨(rd xs9 (IntKind.wrap .i64 ((xs9.length:Int)-1))).Rule,(rd xs9 (IntKind.wrap .i64 ((xs9.length:Int)-1))).Conj,(rd xs9 (IntKind.wrap .i64 ((xs9.length:Int)-1))).Pos⟩:Place)).bind fun r18=>if r18.2=true then if 0≤r18.1.Name then if (!(mgetD false c10 r18.1.Name))=true then (k4 K g1 r18.1.Name).bind fun r24=>if (((xs9.take (IntKind.wrap .i64 ((xs9.length:Int)-1)).toNat).length+r24.length)+((xs9.take (IntKind.wrap .i64 ((xs9.length:Int)-1)).toNat).length+r24.length) / 4+192)*24≤281474976710656 then Q4.l0 K g1 m ((xs9.take (IntKind.wrap .i64 ((xs9.length:Int)-1)).toNat)++r24,mput c10 r18.1.Name true,mput c11 (⟨(rd xs9 (IntKind.wrap .i64 ((xs9.length:Int)-1))).Rule,(rd xs9 (IntKind.wrap .i64 ((xs9.length:Int)-1))).Conj,(rd xs9 (IntKind.wrap .i64 ((xs9.length:Int)-1))).Pos⟩:Place) true) else none else Q4.l0 K g1 m (xs9.take (IntKind.wrap .i64 ((xs9.length:Int)-1)).toNat,c10,mput c11 (⟨(rd xs9 (IntKind.wrap .i64 ((xs9.length:Int)-1))).Rule,(rd xs9 (IntKind.wrap .i64 ((xs9.length:Int)-1))).Conj,(rd xs9 (IntKind.wrap .i64 ((xs9.length:Int)-1))).Pos⟩:Place) true) else Q4.l0 K g1 m (xs9.take (IntKind.wrap .i64 ((xs9.length:Int)-1)).toNat,c10,mput c11 (⟨(rd xs9 (IntKind.wrap .i64 ((xs9.length:Int)-1))).Rule,(rd xs9 (IntKind.wrap .i64 ((xs9.length:Int)-1))).Conj,(rd xs9 (IntKind.wrap .i64 ((xs9.length:Int)-1))).Pos⟩:Place) true) else Q4.l0 K g1 m (xs9.take (IntKind.wrap .i64 ((xs9.length:Int)-1)).toNat,c10,mput c11 (⟨(rd xs9 (IntKind.wrap .i64 ((xs9.length:Int)-1))).Rule,(rd xs9 (IntKind.wrap .i64 ((xs9.length:Int)-1))).Conj,(rd xs9 (IntKind.wrap .i64 ((xs9.length:Int)-1))).Pos⟩:Place) true) else none else none else none else some (xs9,c10,c11)
def Q4 (K:Nat) (g1:Grammar) (ps2:(List Place)):Option (List Place):=(slices_Clone_api_Place_api_Place K ps2).bind fun r5=>(Q4.l0 K g1 K (r5,([]:(List (Int×Bool))),([]:(List (Place×Bool))))).bind fun (xs9,c10,c11)=>if 10≤K then if c11.length*24≤140737488355328 then some (sortL rowP (c11.map (·.1))) else none else none
theorem f9 (K:Nat) (g1:Grammar) (ps2:(List Place)):Fresh1 Try.prog 31 [.fptr (cGrammar.e g1),.fsl cPlace ps2] (Q4 K g1 ps2) (fun r v=>.sv v) (fun r v=>[.own 55 cPlace v r]):=by
 refine fresh_of Try.func31 rfl Try.ntmps31 (le_ rfl) ?_
 refine sSR Y<|sA Y Y<|sES Y<|Ja (ek:=kvPlace) (ev:=(fun x:Bool=>Value.bool x)) Y fun b3=>sA Y Y<|sES Y<|Ja (ek:=(fun x:Int=>Value.int .i64 x)) (ev:=(fun x:Bool=>Value.bool x)) Y fun b4=>sA Y Y<|j0<|W0<|sSR Y<|sM Y Y<|j4 fun r5 e6=>Q9 ent52 (slices_Clone_api_Place_api_Place_ok K _) e6 (.s Y .nil) Y fun v7=>sA Y Y<|j0<|sLo (Q4.l0 K g1) (fun ((xs9,c10,c11):((List Place)×(List (Int×Bool))×(List (Place×Bool)))) (v8:Value)=>([(0,.fptr ((cGrammar.e g1))),(5,.lit (.map (some b3))),(6,.lit (.map (some b4))),(7,.sv v8)]:Fr)) (fun ((xs9,c10,c11):((List Place)×(List (Int×Bool))×(List (Place×Bool)))) (v8:Value)=>([.own 55 cPlace v8 xs9,.mp (fun x:Int=>Value.int .i64 x) (fun x:Bool=>Value.bool x) b4 c10,.mp kvPlace (fun x:Bool=>Value.bool x) b3 c11]:List Res)) v7 (fun _=>Y) [] ⟨Y,Y,Y,Y,trivial⟩ Y ?_ ?_
 ·rintro ⟨xs9,c10,c11⟩ v8
  refine sSR Y<|sM Y Y<|sQ (J4 ent55 (keys55 (b:=b3)) Y (.s Y .nil)) Y<|V5 fun h29=>V5 fun h30=>tc [2] ent54 Y (sorted54 h29 h30) Y Y (.s Y (.s Y .nil)) Y fun v31=>sA Y Y<|j0<|M0 [3,2,1] Try.func31 Try.results31 (rT Y) ⟨_,Y,Y⟩
 ·rintro m ⟨xs9,c10,c11⟩ v8 again0 out0
  refine W0<|sSR Y<|sM Y Y<|sQ (Jb (j:=0) Try.underlying26 Y Y) Y<|sQ (dGt Y Y) Y<|j0<|P3 Y (fun h12=>?_) (fun h12=>?_)
  ·refine P1<|J6<|sSR Y<|sM Y Y<|sM Y Y<|sQ (Jb (j:=0) Try.underlying26 Y Y) Y<|sQ (mc Y Y) Y<|V5 fun h13=>V5 fun h14=>sQ (bc (j:=0) Try.underlying26 z55 Y Y Y h13 h14) Y<|sQ (Ld (c:=cPlace) (j:=0) (off:=0) (IntKind.wrap .i64 ((xs9.length:Int)-1)) g55 z55 Y Y Y h13 h14 (le_ Y)) Y<|Q6 (az:=[Ai .i64 (0:Int),Ai .i64 (0:Int),Ai .i64 (0:Int)]) al55 (fun _ _=>.cons Y (.cons Y (.cons Y .nil))) Y fun b15=>L7 (j:=0) z55 Y Y Y cAgg ((cPlace).one _) Y (le_ Y)<|sES Y<|sM Y Y<|sM Y Y<|sQ (Jb (j:=1) Try.underlying26 Y Y) Y<|sQ (mc Y Y) Y<|V5 fun h16=>sCut (j:=1) Try.underlying26 z55 Y Y Y h13 h16 Y fun v17=>sA Y Y<|sES Y<|sM Y Y<|sQ (W6 (j:=0) g55 z55 Y Y (le_ Y)) Y<|qe (j:=3) (v:=true) (ev:=(fun x:Bool=>Value.bool x)) mk55 Try.underlying100 Y Y Y (fun _ _ _ h=>agg_lit (us:=litsPlace (⟨(rd xs9 (IntKind.wrap .i64 ((xs9.length:Int)-1))).Rule,(rd xs9 (IntKind.wrap .i64 ((xs9.length:Int)-1))).Conj,(rd xs9 (IntKind.wrap .i64 ((xs9.length:Int)-1))).Pos⟩:Place)) h) Y<|sES Y<|sM Y Y<|sQ (W6 (j:=0) g55 z55 Y Y (le_ Y)) Y<|j4 fun r18 e19=>sQ (J4 ent53 (aa K _ _) e19 (.s Y<|.s Y .nil)) Y<|sM Y Y<|sQ (dX Y Y) Y<|sQ (dX Y Y) Y<|Q6 (az:=[Ai .i64 (0:Int),Ai .i64 (0:Int),Ai .i64 (0:Int)]) al51 (fun _ _=>.cons Y (.cons Y (.cons Y .nil))) Y fun b20=>L7 (j:=0) z51 Y Y Y cAgg ((cSymbol).one _) Y (le_ Y)<|sA Y Y<|sES Y<|sM Y Y<|sM Y Y<|M3 (fun h21=>?_) (fun h21=>?_)
   ·refine sG 1 Y Y Y h21 Y (J3 fa51_0 Y) Y<|sG 1 Y Y Y h21 Y (W3 (j:=0) g3 Y Y Y) Y<|sG 1 Y Y Y h21 Y (dGe Y Y) Y<|sQ (G0 Y h21 Y) Y<|sM Y Y<|M3 (fun h22=>?_) (fun h22=>?_)
    ·refine sG 6 Y Y Y (dT h22) Y (dMv Y) Y<|sG 6 Y Y Y (dT h22) Y (J3 fa51_0 Y) Y<|sG 6 Y Y Y (dT h22) Y (W3 (j:=0) g3 Y Y Y) Y<|sG 6 Y Y Y (dT h22) Y (ye (j:=3) (z:=false) (ev:=(fun x:Bool=>Value.bool x)) mk3 Try.underlying101 zv4 Y Y Y (fun _ _ _ h=>h)) Y<|sG 6 Y Y Y (dT h22) Y (z8 Y) Y<|sQ (G0 Y (dT h22) Y) Y<|j0<|k6 Y (fun h23=>?_) (fun h23=>?_)
     ·refine sSR Y<|sM Y Y<|sQ (J3 fa51_0 Y) Y<|sQ (W3 (j:=0) g3 Y Y Y) Y<|qe (j:=3) (v:=true) (ev:=(fun x:Bool=>Value.bool x)) mk3 Try.underlying101 Y Y Y (fun _ _ _ h=>h) Y<|j0<|y4 Y<|sM Y Y<|sM Y Y<|sQ (J3 fa51_0 Y) Y<|sQ (W3 (j:=0) g3 Y Y Y) Y<|j4 fun r24 e25=>Q9 ent35 (ba K _ _) e25 (.s Y<|.s Y .nil) Y fun v26=>td 0 Y<|zf 57 0 Y Y<|V5 fun h27=>sApW (j:=3) Try.underlying26 k7 Y Y Y Y h27 Y Y fun v28=>sA Y Y<|j0<|Q2<|Q3 (again0 ((xs9.take (IntKind.wrap .i64 ((xs9.length:Int)-1)).toNat)++r24,mput c10 r18.1.Name true,mput c11 (⟨(rd xs9 (IntKind.wrap .i64 ((xs9.length:Int)-1))).Rule,(rd xs9 (IntKind.wrap .i64 ((xs9.length:Int)-1))).Conj,(rd xs9 (IntKind.wrap .i64 ((xs9.length:Int)-1))).Pos⟩:Place) true) v28) [3,3,3] ⟨Y,Y,Y,Y,trivial⟩ Y
     ·refine P1<|Q2<|Q3 (again0 (xs9.take (IntKind.wrap .i64 ((xs9.length:Int)-1)).toNat,c10,mput c11 (⟨(rd xs9 (IntKind.wrap .i64 ((xs9.length:Int)-1))).Rule,(rd xs9 (IntKind.wrap .i64 ((xs9.length:Int)-1))).Conj,(rd xs9 (IntKind.wrap .i64 ((xs9.length:Int)-1))).Pos⟩:Place) true) v17) [2,2,2] ⟨Y,Y,Y,Y,trivial⟩ Y
    ·refine sU 6 Y Y Y (dF h22) Y Y<|sU 6 Y Y Y (dF h22) Y Y<|sU 6 Y Y Y (dF h22) Y Y<|sU 6 Y Y Y (dF h22) Y Y<|sU 6 Y Y Y (dF h22) Y Y<|sQ (P0 Y (dF h22) Y) Y<|j0<|w8 Y Y<|P1<|Q2<|Q3 (again0 (xs9.take (IntKind.wrap .i64 ((xs9.length:Int)-1)).toNat,c10,mput c11 (⟨(rd xs9 (IntKind.wrap .i64 ((xs9.length:Int)-1))).Rule,(rd xs9 (IntKind.wrap .i64 ((xs9.length:Int)-1))).Conj,(rd xs9 (IntKind.wrap .i64 ((xs9.length:Int)-1))).Pos⟩:Place) true) v17) [2,2,2] ⟨Y,Y,Y,Y,trivial⟩ Y
   ·refine sU 1 Y Y Y (eF h21) Y Y<|sU 1 Y Y Y (eF h21) Y Y<|sU 1 Y Y Y (eF h21) Y Y<|sQ (P0 Y (eF h21) Y) Y<|sM Y Y<|sU 6 Y Y Y Y Y Y<|sU 6 Y Y Y Y Y Y<|sU 6 Y Y Y Y Y Y<|sU 6 Y Y Y Y Y Y<|sU 6 Y Y Y Y Y Y<|sQ (P0 Y Y Y) Y<|j0<|w8 Y Y<|P1<|Q2<|Q3 (again0 (xs9.take (IntKind.wrap .i64 ((xs9.length:Int)-1)).toNat,c10,mput c11 (⟨(rd xs9 (IntKind.wrap .i64 ((xs9.length:Int)-1))).Rule,(rd xs9 (IntKind.wrap .i64 ((xs9.length:Int)-1))).Conj,(rd xs9 (IntKind.wrap .i64 ((xs9.length:Int)-1))).Pos⟩:Place) true) v17) [2,2,2] ⟨Y,Y,Y,Y,trivial⟩ Y
  ·refine W4 Y<|Q3 (out0 (xs9,c10,c11) v8) [0,0,0] ⟨Y,Y,Y,Y,trivial⟩ Y
def slices_IndexFunc_api_Place_api_Place__1.l0 (K:Nat) (s1:(List Place)) (c2:Grammar):Nat→Int→Option (Int ⊕ Int)
 | 0,_=>none
 | m+1,t3=>if t3<(s1.length:Int) then if 0≤t3 then (M9 K (rd s1 t3) c2).bind fun r6=>if r6=true then some (.inr t3) else slices_IndexFunc_api_Place_api_Place__1.l0 K s1 c2 m (IntKind.wrap .i64 (t3+1)) else none else some (.inl t3)
def slices_IndexFunc_api_Place_api_Place__1 (K:Nat) (s1:(List Place)) (c2:Grammar):Option Int:=brk (slices_IndexFunc_api_Place_api_Place__1.l0 K s1 c2 K 0) fun t3=>some (-1)
theorem slices_IndexFunc_api_Place_api_Place__1_ok (K:Nat) (s1:(List Place)) (c2:Grammar):Pure Try.prog 51 [.fsl cPlace s1,.fnc 29 [.fptr ((cGrammar.e c2))]] (slices_IndexFunc_api_Place_api_Place__1 K s1 c2) (fun r=>Ai .i64 r):=by
 refine spec_of' Try.func51 rfl Try.ntmps51 (le_ rfl) ?_
 refine sSR Y<|sA Y Y<|j0<|W0<|sSR Y<|sM Y Y<|sQ (L4 Try.underlying26 Y) Y<|sM Y Y<|j0<|G8 (slices_IndexFunc_api_Place_api_Place__1.l0 K s1 c2) (fun (t3:Int) (_:Unit)=>([(0,.fsl cPlace s1),(1,.fnc 29 [.fptr ((cGrammar.e c2))]),(7,Ai .i64 (s1.length:Int)),(8,Ai .i64 t3)]:Fr)) (fun (t3:Int) (_:Unit)=>([]:List Res)) () (fun _=>Y) [] ⟨Y,Y,Y,Y,trivial⟩ Y ?_ ?_
 ·rintro t3 _
  refine sSR Y<|sA Y Y<|j0<|M0 [] Try.func51 Try.results51 (rT Y) ⟨Y,Y⟩
 ·rintro m t3 _ again0 out0
  refine sSR Y<|sQ (dLt Y Y) Y<|j0<|W0<|P3 Y (fun h4=>?_) (fun h4=>?_)
  ·refine P1<|W0<|J6<|sSR Y<|sM Y Y<|sA Y Y<|sES Y<|sM Y Y<|sM Y Y<|sM Y Y<|V5 fun h5=>sQ (dIx Try.underlying26 z55 Y Y h5 h4) Y<|sQ (m7 g55 z55 Y (le_ Y)) Y<|j4 fun r6 e7=>sQ (vf (avs:=[.agg (cPlace.e (rd s1 t3))]) (cs:=[.fptr ((cGrammar.e c2))]) ent29 Y (Qb K _ _) e7 (.s Y .nil)) Y<|j0<|k6 Y (fun h8=>?_) (fun h8=>?_)
   ·refine sSR Y<|sM Y Y<|sA Y Y<|j0<|y6<|M0 [] Try.func51 Try.results51 (rT Y) ⟨Y,Y⟩
   ·refine P1<|Q2<|y4 Y<|sQ (L5 Y Y) Y<|sM Y Y<|j0<|Q3 (again0 (IntKind.wrap .i64 (t3+1)) ()) [] ⟨Y,Y,Y,Y,trivial⟩ Y
  ·refine W4 Y<|Q3 (out0 t3 ()) [] ⟨Y,Y,Y,Y,trivial⟩ Y
def slices_ContainsFunc_api_Place_api_Place__1 (K:Nat) (s1:(List Place)) (c2:Grammar):Option Bool:=(slices_IndexFunc_api_Place_api_Place__1 K s1 c2).bind fun r3=>some (decide (0≤r3))
theorem slices_ContainsFunc_api_Place_api_Place__1_ok (K:Nat) (s1:(List Place)) (c2:Grammar):Pure Try.prog 28 [.fsl cPlace s1,.fnc 29 [.fptr ((cGrammar.e c2))]] (slices_ContainsFunc_api_Place_api_Place__1 K s1 c2) (fun r=>Ab r):=by
 refine spec_of' Try.func28 rfl Try.ntmps28 (le_ rfl) ?_
 refine sSR Y<|sA Y Y<|sES Y<|sM Y Y<|sM Y Y<|j4 fun r3 e4=>sQ (J4 ent51 (slices_IndexFunc_api_Place_api_Place__1_ok K _ _) e4 (.s Y<|.s Y .nil)) Y<|sQ (dGe Y Y) Y<|sA Y Y<|j0<|M0 [] Try.func28 Try.results28 (rT Y) ⟨Y,Y⟩
def j5 (K:Nat) (g1:Grammar) (ps2:(List Place)):Option ((List Place)×Int):=(V6 K g1).bind fun r3=>if (!r3)=true then some (([]:List Place),1300) else (slices_ContainsFunc_api_Place_api_Place__1 K ps2 g1).bind fun r7=>if r7=true then some (([]:List Place),1300) else (Q4 K g1 ps2).bind fun r11=>some (r11,0)
theorem M7 (K:Nat) (g1:Grammar) (ps2:(List Place)):Fresh1 Try.prog 11 [.agg (cGrammar.e g1),.fsl cPlace ps2] (j5 K g1 ps2) (fun r v=>.tup [.sv v,Ai .i64 r.2]) (fun r v=>[.own 55 cPlace v r.1]):=by
 refine fresh_of Try.func11 rfl Try.ntmps11 (le_ rfl) ?_
 refine sSR Y<|sQ (P7 (az:=cGrammar.e g1) Y cAgg) Y<|sA Y Y<|sA Y Y<|j0<|W0<|sSR Y<|sQ (m7 g25 z25 Y (le_ Y)) Y<|j4 fun r3 e4=>sQ (J4 ent27 (Gb K _) e4 (.s Y .nil)) Y<|sQ (z8 Y) Y<|sM Y Y<|M3 (fun h5=>?_) (fun h5=>?_)
 ·refine sU 3 Y Y Y h5 Y Y<|sU 3 Y Y Y h5 Y Y<|sU 3 Y Y Y h5 Y Y<|sQ (G0 Y h5 Y) Y<|j0<|M4 Y Y<|sSR Y<|sA Y Y<|sA Y Y<|j0<|cc 4 55 cPlace Y fun v6=>m8 [] Try.func11 Try.results11 (rT Y) (rT Y) ⟨_,Y,Y⟩
 ·refine sG 3 Y Y Y (eF h5) Y (dMv Y) Y<|sG 3 Y Y Y (eF h5) Y (zg (.s Y .nil)) Y<|j4 fun r7 e8=>sG 3 Y Y Y (eF h5) Y (J4 ent28 (slices_ContainsFunc_api_Place_api_Place__1_ok K _ _) e8 (.s Y<|.s Y .nil)) Y<|sQ (P0 Y (eF h5) Y) Y<|j0<|k6 Y (fun h9=>?_) (fun h9=>?_)
  ·refine sSR Y<|sA Y Y<|sA Y Y<|j0<|cc 4 55 cPlace Y fun v10=>m8 [] Try.func11 Try.results11 (rT Y) (rT Y) ⟨_,Y,Y⟩
  ·refine P1<|sSR Y<|sM Y Y<|j4 fun r11 e12=>Q9 ent31 (f9 K _ _) e12 (.s Y<|.s Y .nil) Y fun v13=>sA Y Y<|sA Y Y<|j0<|m8 [] Try.func11 Try.results11 (rT Y) (rT Y) ⟨_,Y,Y⟩
def y7 (K:Nat) (c1:Int):Option Bool:=if 97≤c1 then if c1≤122 then some true else if 65≤c1 then if c1≤90 then some true else some (decide (c1=95)) else some (decide (c1=95)) else if 65≤c1 then if c1≤90 then some true else some (decide (c1=95)) else some (decide (c1=95))
theorem q9 (K:Nat) (c1:Int):Pure Try.prog 60 [Ai .u8 c1] (y7 K c1) (fun r=>Ab r):=by
 refine spec_of' Try.func60 rfl Try.ntmps60 (le_ rfl) ?_
 refine sSR Y<|sA Y Y<|sES Y<|sM Y Y<|sQ (dGe Y Y) Y<|sM Y Y<|M3 (fun h2=>?_) (fun h2=>?_)
 ·refine sG 2 Y Y Y (dT h2) Y (dMv Y) Y<|sG 2 Y Y Y (dT h2) Y (dLe Y Y) Y<|sQ (G0 Y (dT h2) Y) Y<|sM Y Y<|M3 (fun h3=>?_) (fun h3=>?_)
  ·refine sU 6 Y Y Y (dT h3) Y Y<|sU 6 Y Y Y (dT h3) Y Y<|sU 6 Y Y Y (dT h3) Y Y<|sQv (j:=9) Y Y Y Y Y<|sQv (j:=9) Y Y Y Y Y<|sU 6 Y Y Y (dT h3) Y Y<|sQ (G0 Y (dT h3) Y) Y<|sM Y Y<|sU 14 Y Y Y Y Y Y<|sU 14 Y Y Y Y Y Y<|sQ (G0 Y Y Y) Y<|sA Y Y<|j0<|M0 [] Try.func60 Try.results60 (rT Y) ⟨Y,Y⟩
  ·refine sG 6 Y Y Y (dF h3) Y (dMv Y) Y<|sG 6 Y Y Y (dF h3) Y (dGe Y Y) Y<|sG 6 Y Y Y (dF h3) Y (dMv Y) Y<|M3 (fun h4=>?_) (fun h4=>?_)
   ·refine sG 9 Y Y Y (dT h4) Y (dMv Y) Y<|sG 9 Y Y Y (dT h4) Y (dLe Y Y) Y<|sG 6 Y Y Y (dF h3) Y (G0 Y (dT h4) Y) Y<|sQ (P0 Y (dF h3) Y) Y<|sM Y Y<|M3 (fun h5=>?_) (fun h5=>?_)
    ·refine sU 14 Y Y Y (dT h5) Y Y<|sU 14 Y Y Y (dT h5) Y Y<|sQ (G0 Y (dT h5) Y) Y<|sA Y Y<|j0<|M0 [] Try.func60 Try.results60 (rT Y) ⟨Y,Y⟩
    ·refine sG 14 Y Y Y (dF h5) Y (dMv Y) Y<|sG 14 Y Y Y (dF h5) Y (dEq Y Y) Y<|sQ (P0 Y (dF h5) Y) Y<|sA Y Y<|j0<|M0 [] Try.func60 Try.results60 (rT Y) ⟨Y,Y⟩
   ·refine sU 9 Y Y Y (dF h4) Y Y<|sU 9 Y Y Y (dF h4) Y Y<|sG 6 Y Y Y (dF h3) Y (P0 Y (dF h4) Y) Y<|sQ (P0 Y (dF h3) Y) Y<|sM Y Y<|sG 14 Y Y Y Y Y (dMv Y) Y<|sG 14 Y Y Y Y Y (dEq Y Y) Y<|sQ (P0 Y Y Y) Y<|sA Y Y<|j0<|M0 [] Try.func60 Try.results60 (rT Y) ⟨Y,Y⟩
 ·refine sU 2 Y Y Y (dF h2) Y Y<|sU 2 Y Y Y (dF h2) Y Y<|sQ (P0 Y (dF h2) Y) Y<|sM Y Y<|sG 6 Y Y Y Y Y (dMv Y) Y<|sG 6 Y Y Y Y Y (dGe Y Y) Y<|sG 6 Y Y Y Y Y (dMv Y) Y<|M3 (fun h6=>?_) (fun h6=>?_)
  ·refine sG 9 Y Y Y (dT h6) Y (dMv Y) Y<|sG 9 Y Y Y (dT h6) Y (dLe Y Y) Y<|sG 6 Y Y Y Y Y (G0 Y (dT h6) Y) Y<|sQ (P0 Y Y Y) Y<|sM Y Y<|M3 (fun h7=>?_) (fun h7=>?_)
   ·refine sU 14 Y Y Y (dT h7) Y Y<|sU 14 Y Y Y (dT h7) Y Y<|sQ (G0 Y (dT h7) Y) Y<|sA Y Y<|j0<|M0 [] Try.func60 Try.results60 (rT Y) ⟨Y,Y⟩
   ·refine sG 14 Y Y Y (dF h7) Y (dMv Y) Y<|sG 14 Y Y Y (dF h7) Y (dEq Y Y) Y<|sQ (P0 Y (dF h7) Y) Y<|sA Y Y<|j0<|M0 [] Try.func60 Try.results60 (rT Y) ⟨Y,Y⟩
  ·refine sU 9 Y Y Y (dF h6) Y Y<|sU 9 Y Y Y (dF h6) Y Y<|sG 6 Y Y Y Y Y (P0 Y (dF h6) Y) Y<|sQ (P0 Y Y Y) Y<|sM Y Y<|sG 14 Y Y Y Y Y (dMv Y) Y<|sG 14 Y Y Y Y Y (dEq Y Y) Y<|sQ (P0 Y Y Y) Y<|sA Y Y<|j0<|M0 [] Try.func60 Try.results60 (rT Y) ⟨Y,Y⟩
def Q8 (K:Nat) (c1:Int):Option Bool:=if 48≤c1 then some (decide (c1≤57)) else some false
theorem pb (K:Nat) (c1:Int):Pure Try.prog 61 [Ai .u8 c1] (Q8 K c1) (fun r=>Ab r):=by
 refine spec_of' Try.func61 rfl Try.ntmps61 (le_ rfl) ?_
 refine sSR Y<|sA Y Y<|sES Y<|sM Y Y<|sQ (dGe Y Y) Y<|sM Y Y<|M3 (fun h2=>?_) (fun h2=>?_)
 ·refine sG 2 Y Y Y (dT h2) Y (dMv Y) Y<|sG 2 Y Y Y (dT h2) Y (dLe Y Y) Y<|sQ (G0 Y (dT h2) Y) Y<|sA Y Y<|j0<|M0 [] Try.func61 Try.results61 (rT Y) ⟨Y,Y⟩
 ·refine sU 2 Y Y Y (dF h2) Y Y<|sU 2 Y Y Y (dF h2) Y Y<|sQ (P0 Y (dF h2) Y) Y<|sA Y Y<|j0<|M0 [] Try.func61 Try.results61 (rT Y) ⟨Y,Y⟩
def P4.l0 (K:Nat) (s1:ByteArray):Nat→Int→Option (Int ⊕ Bool)
 | 0,_=>none
 | m+1,i9=>if i9<(s1.size:Int) then if 0≤i9 then (y7 K (bt s1 i9)).bind fun r12=>if (!r12)=true then (Q8 K (bt s1 i9)).bind fun r15=>if (!r15)=true then some (.inr false) else P4.l0 K s1 m (IntKind.wrap .i64 (i9+1)) else P4.l0 K s1 m (IntKind.wrap .i64 (i9+1)) else none else some (.inl i9)
def P4 (K:Nat) (s1:ByteArray):Option Bool:=if (s1.size:Int)<1 then some false else if 32<(s1.size:Int) then some false else if s1=(⟨#[115,116,97,114,116]⟩:ByteArray) then some false else if 0<(s1.size:Int) then (y7 K (bt s1 0)).bind fun r6=>if (!r6)=true then some false else brk (P4.l0 K s1 K 0) fun i9=>some true else none
theorem V8 (K:Nat) (s1:ByteArray):Pure Try.prog 44 [.lit (.string s1)] (P4 K s1) (fun r=>Ab r):=by
 refine spec_of' Try.func44 rfl Try.ntmps44 (le_ rfl) ?_
 refine sSR Y<|sA Y Y<|j0<|W0<|sSR Y<|sM Y Y<|sQ (Mc Try.underlying9 Y) Y<|sQ (dLt Y Y) Y<|sM Y Y<|M3 (fun h2=>?_) (fun h2=>?_)
 ·refine sU 3 Y Y Y (dT h2) Y Y<|sU 3 Y Y Y (dT h2) Y Y<|sU 3 Y Y Y (dT h2) Y Y<|sQ (G0 Y (dT h2) Y) Y<|sM Y Y<|sU 8 Y Y Y Y Y Y<|sU 8 Y Y Y Y Y Y<|sQ (G0 Y Y Y) Y<|sM Y Y<|sU 12 Y Y Y Y Y Y<|sU 12 Y Y Y Y Y Y<|sU 12 Y Y Y Y Y Y<|sU 12 Y Y Y Y Y Y<|sQ (G0 Y Y Y) Y<|j0<|M4 Y Y<|sSR Y<|sA Y Y<|j0<|M0 [] Try.func44 Try.results44 (rT Y) ⟨Y,Y⟩
 ·refine sG 3 Y Y Y (dF h2) Y (dMv Y) Y<|sG 3 Y Y Y (dF h2) Y (Mc Try.underlying9 Y) Y<|sG 3 Y Y Y (dF h2) Y (dGt Y Y) Y<|sQ (P0 Y (dF h2) Y) Y<|sM Y Y<|M3 (fun h3=>?_) (fun h3=>?_)
  ·refine sU 8 Y Y Y (dT h3) Y Y<|sU 8 Y Y Y (dT h3) Y Y<|sQ (G0 Y (dT h3) Y) Y<|sM Y Y<|sU 12 Y Y Y Y Y Y<|sU 12 Y Y Y Y Y Y<|sU 12 Y Y Y Y Y Y<|sU 12 Y Y Y Y Y Y<|sQ (G0 Y Y Y) Y<|j0<|M4 Y Y<|sSR Y<|sA Y Y<|j0<|M0 [] Try.func44 Try.results44 (rT Y) ⟨Y,Y⟩
  ·refine sG 8 Y Y Y (dF h3) Y (dMv Y) Y<|sG 8 Y Y Y (dF h3) Y (ce Y Y) Y<|sQ (P0 Y (dF h3) Y) Y<|sM Y Y<|M3 (fun h4=>?_) (fun h4=>?_)
   ·refine sU 12 Y Y Y (dT h4) Y Y<|sU 12 Y Y Y (dT h4) Y Y<|sU 12 Y Y Y (dT h4) Y Y<|sU 12 Y Y Y (dT h4) Y Y<|sQ (G0 Y (dT h4) Y) Y<|j0<|M4 Y Y<|sSR Y<|sA Y Y<|j0<|M0 [] Try.func44 Try.results44 (rT Y) ⟨Y,Y⟩
   ·refine sG 12 Y Y Y (dF h4) Y (dMv Y) Y<|V5 fun h5=>sG 12 Y Y Y (dF h4) Y (Vd Try.underlying9 Y Y (by decide) h5) Y<|j4 fun r6 e7=>sG 12 Y Y Y (dF h4) Y (J4 ent60 (q9 K _) e7 (.s Y .nil)) Y<|sG 12 Y Y Y (dF h4) Y (z8 Y) Y<|sQ (P0 Y (dF h4) Y) Y<|j0<|k6 Y (fun h8=>?_) (fun h8=>?_)
    ·refine sSR Y<|sA Y Y<|j0<|M0 [] Try.func44 Try.results44 (rT Y) ⟨Y,Y⟩
    ·refine P1<|W0<|sSR Y<|sA Y Y<|j0<|G8 (P4.l0 K s1) (fun (i9:Int) (_:Unit)=>([(0,.lit (.string s1)),(3,Ai .i64 i9)]:Fr)) (fun (i9:Int) (_:Unit)=>([]:List Res)) () (fun _=>Y) [] ⟨Y,Y,trivial⟩ Y ?_ ?_
     ·rintro i9 _
      refine sSR Y<|sA Y Y<|j0<|M0 [] Try.func44 Try.results44 (rT Y) ⟨Y,Y⟩
     ·rintro m i9 _ again0 out0
      refine W0<|sSR Y<|sM Y Y<|sM Y Y<|sQ (Mc Try.underlying9 Y) Y<|sQ (dLt Y Y) Y<|j0<|P3 Y (fun h10=>?_) (fun h10=>?_)
      ·refine P1<|W0<|J6<|sSR Y<|sM Y Y<|sM Y Y<|V5 fun h11=>sQ (Vd Try.underlying9 Y Y h11 h10) Y<|j4 fun r12 e13=>sQ (J4 ent60 (q9 K _) e13 (.s Y .nil)) Y<|sQ (z8 Y) Y<|sM Y Y<|M3 (fun h14=>?_) (fun h14=>?_)
       ·refine sG 5 Y Y Y h14 Y (dMv Y) Y<|sG 5 Y Y Y h14 Y (dMv Y) Y<|sG 5 Y Y Y h14 Y (Vd Try.underlying9 Y Y h11 h10) Y<|j4 fun r15 e16=>sG 5 Y Y Y h14 Y (J4 ent61 (pb K _) e16 (.s Y .nil)) Y<|sG 5 Y Y Y h14 Y (z8 Y) Y<|sQ (G0 Y h14 Y) Y<|j0<|k6 Y (fun h17=>?_) (fun h17=>?_)
        ·refine sSR Y<|sA Y Y<|j0<|y6<|M0 [] Try.func44 Try.results44 (rT Y) ⟨Y,Y⟩
        ·refine P1<|Q2<|y4 Y<|sM Y Y<|sQ (L5 Y Y) Y<|sA Y Y<|j0<|Q3 (again0 (IntKind.wrap .i64 (i9+1)) ()) [] ⟨Y,Y,trivial⟩ Y
       ·refine sU 5 Y Y Y (eF h14) Y Y<|sU 5 Y Y Y (eF h14) Y Y<|sU 5 Y Y Y (eF h14) Y Y<|sU 5 Y Y Y (eF h14) Y Y<|sU 5 Y Y Y (eF h14) Y Y<|sQ (P0 Y (eF h14) Y) Y<|j0<|w8 Y Y<|P1<|Q2<|y4 Y<|sM Y Y<|sQ (L5 Y Y) Y<|sA Y Y<|j0<|Q3 (again0 (IntKind.wrap .i64 (i9+1)) ()) [] ⟨Y,Y,trivial⟩ Y
      ·refine W4 Y<|Q3 (out0 i9 ()) [] ⟨Y,Y,trivial⟩ Y
def P5.l0 (K:Nat) (names1:(List ByteArray)) (s2:ByteArray):Nat→Int→Option (Int ⊕ Int)
 | 0,_=>none
 | m+1,i3=>if i3<(names1.length:Int) then if 0≤i3 then if (rd names1 i3)=s2 then some (.inr i3) else P5.l0 K names1 s2 m (IntKind.wrap .i64 (i3+1)) else none else some (.inl i3)
def P5 (K:Nat) (names1:(List ByteArray)) (s2:ByteArray):Option Int:=brk (P5.l0 K names1 s2 K 0) fun i3=>some (-1)
theorem cb (K:Nat) (names1:(List ByteArray)) (s2:ByteArray):Pure Try.prog 45 [.fsl cS names1,.lit (.string s2)] (P5 K names1 s2) (fun r=>Ai .i64 r):=by
 refine spec_of' Try.func45 rfl Try.ntmps45 (le_ rfl) ?_
 refine sSR Y<|sA Y Y<|j0<|W0<|sSR Y<|sA Y Y<|j0<|G8 (P5.l0 K names1 s2) (fun (i3:Int) (_:Unit)=>([(0,.fsl cS names1),(1,.lit (.string s2)),(5,Ai .i64 i3)]:Fr)) (fun (i3:Int) (_:Unit)=>([]:List Res)) () (fun _=>Y) [] ⟨Y,Y,Y,trivial⟩ Y ?_ ?_
 ·rintro i3 _
  refine sSR Y<|sA Y Y<|j0<|M0 [] Try.func45 Try.results45 (rT Y) ⟨Y,Y⟩
 ·rintro m i3 _ again0 out0
  refine W0<|sSR Y<|sM Y Y<|sM Y Y<|sQ (L4 Try.underlying22 Y) Y<|sQ (dLt Y Y) Y<|j0<|P3 Y (fun h4=>?_) (fun h4=>?_)
  ·refine P1<|W0<|J6<|sSR Y<|sM Y Y<|sM Y Y<|V5 fun h5=>sQ (dIx Try.underlying22 z9 Y Y h5 h4) Y<|sQ (dLd g9 Y Y) Y<|sM Y Y<|sQ (ce Y Y) Y<|j0<|P3 Y (fun h6=>?_) (fun h6=>?_)
   ·refine sSR Y<|sM Y Y<|sA Y Y<|j0<|y6<|M0 [] Try.func45 Try.results45 (rT Y) ⟨Y,Y⟩
   ·refine P1<|Q2<|y4 Y<|sM Y Y<|sQ (L5 Y Y) Y<|sA Y Y<|j0<|Q3 (again0 (IntKind.wrap .i64 (i3+1)) ()) [] ⟨Y,Y,Y,trivial⟩ Y
  ·refine W4 Y<|Q3 (out0 i3 ()) [] ⟨Y,Y,Y,trivial⟩ Y
def w7 (K:Nat) (x1:Symbol) (names2:Int):Option Bool:=if x1.Name=(-1) then (if 0≤x1.Lo then if x1.Lo≤x1.Hi then some (decide (x1.Hi≤255)) else some false else some false).bind fun t4=>some t4 else if 0≤x1.Name then if x1.Name<names2 then if x1.Lo=0 then some (decide (x1.Hi=0)) else some false else some false else some false
theorem V9 (K:Nat) (x1:Symbol) (names2:Int):Pure Try.prog 62 [.agg (cSymbol.e x1),Ai .i64 names2] (w7 K x1 names2) (fun r=>Ab r):=by
 refine spec_of' Try.func62 rfl Try.ntmps62 (le_ rfl) ?_
 refine sSR Y<|sQ (P7 (az:=cSymbol.e x1) Y cAgg) Y<|sA Y Y<|j0<|W0<|sSR Y<|sQ (dFA fa51_0 Y) Y<|sQ (dLd g3 Y Y) Y<|sQ (dEq Y Y) Y<|j0<|P3 Y (fun h3=>?_) (fun h3=>?_)
 ·refine W0<|qc (fun (t4:Bool) (_:Unit)=>([(4,Ab t4)]:Fr)) (fun (t4:Bool) (_:Unit)=>([]:List Res)) ?_ ?_
  ·rintro t4 _
   refine M0 [] Try.func62 Try.results62 (rT Y) ⟨Y,Y⟩
  ·intro join4
   refine y4 Y<|sQ (dFA fa51_1 Y) Y<|sQ (dLd g3 Y Y) Y<|sQ (dGe Y Y) Y<|sM Y Y<|M3 (fun h6=>?_) (fun h6=>?_)
   ·refine sG 3 Y Y Y (dT h6) Y (dFA fa51_1 Y) Y<|sG 3 Y Y Y (dT h6) Y (dLd g3 Y Y) Y<|sG 3 Y Y Y (dT h6) Y (dFA fa51_2 Y) Y<|sG 3 Y Y Y (dT h6) Y (dLd g3 Y Y) Y<|sG 3 Y Y Y (dT h6) Y (dLe Y Y) Y<|sQ (G0 Y (dT h6) Y) Y<|sM Y Y<|M3 (fun h7=>?_) (fun h7=>?_)
    ·refine sG 10 Y Y Y (dT h7) Y (dFA fa51_2 Y) Y<|sG 10 Y Y Y (dT h7) Y (dLd g3 Y Y) Y<|sG 10 Y Y Y (dT h7) Y (dLe Y Y) Y<|sQ (G0 Y (dT h7) Y) Y<|sA Y Y<|j0<|Q3 (join4 (decide (x1.Hi≤255)) ()) [] ⟨Y,trivial⟩ Y
    ·refine sU 10 Y Y Y (dF h7) Y Y<|sU 10 Y Y Y (dF h7) Y Y<|sU 10 Y Y Y (dF h7) Y Y<|sQ (P0 Y (dF h7) Y) Y<|sA Y Y<|j0<|Q3 (join4 false ()) [] ⟨Y,trivial⟩ Y
   ·refine sU 3 Y Y Y (dF h6) Y Y<|sU 3 Y Y Y (dF h6) Y Y<|sU 3 Y Y Y (dF h6) Y Y<|sU 3 Y Y Y (dF h6) Y Y<|sU 3 Y Y Y (dF h6) Y Y<|sQ (P0 Y (dF h6) Y) Y<|sM Y Y<|sU 10 Y Y Y Y Y Y<|sU 10 Y Y Y Y Y Y<|sU 10 Y Y Y Y Y Y<|sQ (P0 Y Y Y) Y<|sA Y Y<|j0<|Q3 (join4 false ()) [] ⟨Y,trivial⟩ Y
 ·refine P1<|sSR Y<|sQ (dFA fa51_0 Y) Y<|sQ (dLd g3 Y Y) Y<|sQ (dGe Y Y) Y<|sM Y Y<|M3 (fun h8=>?_) (fun h8=>?_)
  ·refine sG 3 Y Y Y (dT h8) Y (dFA fa51_0 Y) Y<|sG 3 Y Y Y (dT h8) Y (dLd g3 Y Y) Y<|sG 3 Y Y Y (dT h8) Y (dMv Y) Y<|sG 3 Y Y Y (dT h8) Y (dLt Y Y) Y<|sQ (G0 Y (dT h8) Y) Y<|sM Y Y<|M3 (fun h9=>?_) (fun h9=>?_)
   ·refine sG 9 Y Y Y (dT h9) Y (dFA fa51_1 Y) Y<|sG 9 Y Y Y (dT h9) Y (dLd g3 Y Y) Y<|sG 9 Y Y Y (dT h9) Y (dEq Y Y) Y<|sQ (G0 Y (dT h9) Y) Y<|sM Y Y<|M3 (fun h10=>?_) (fun h10=>?_)
    ·refine sG 14 Y Y Y (dT h10) Y (dFA fa51_2 Y) Y<|sG 14 Y Y Y (dT h10) Y (dLd g3 Y Y) Y<|sG 14 Y Y Y (dT h10) Y (dEq Y Y) Y<|sQ (G0 Y (dT h10) Y) Y<|sA Y Y<|j0<|M0 [] Try.func62 Try.results62 (rT Y) ⟨Y,Y⟩
    ·refine sU 14 Y Y Y (dF h10) Y Y<|sU 14 Y Y Y (dF h10) Y Y<|sU 14 Y Y Y (dF h10) Y Y<|sQ (P0 Y (dF h10) Y) Y<|sA Y Y<|j0<|M0 [] Try.func62 Try.results62 (rT Y) ⟨Y,Y⟩
   ·refine sU 9 Y Y Y (dF h9) Y Y<|sU 9 Y Y Y (dF h9) Y Y<|sU 9 Y Y Y (dF h9) Y Y<|sQ (P0 Y (dF h9) Y) Y<|sM Y Y<|sU 14 Y Y Y Y Y Y<|sU 14 Y Y Y Y Y Y<|sU 14 Y Y Y Y Y Y<|sQ (P0 Y Y Y) Y<|sA Y Y<|j0<|M0 [] Try.func62 Try.results62 (rT Y) ⟨Y,Y⟩
  ·refine sU 3 Y Y Y (dF h8) Y Y<|sU 3 Y Y Y (dF h8) Y Y<|sU 3 Y Y Y (dF h8) Y Y<|sU 3 Y Y Y (dF h8) Y Y<|sQ (P0 Y (dF h8) Y) Y<|sM Y Y<|sU 9 Y Y Y Y Y Y<|sU 9 Y Y Y Y Y Y<|sU 9 Y Y Y Y Y Y<|sQ (P0 Y Y Y) Y<|sM Y Y<|sU 14 Y Y Y Y Y Y<|sU 14 Y Y Y Y Y Y<|sU 14 Y Y Y Y Y Y<|sQ (P0 Y Y Y) Y<|sA Y Y<|j0<|M0 [] Try.func62 Try.results62 (rT Y) ⟨Y,Y⟩
def M2.l1 (K:Nat) (r1:Rule) (names2:Int) (i6:Int):Nat→Int→Option (Int ⊕ ((Int×Int) ⊕ (Int×Bool)))
 | 0,_=>none
 | m+1,j10=>if j10<(((rd r1.Conj i6).Seq).length:Int) then if 0≤j10 then (w7 K (rd ((rd r1.Conj i6).Seq) j10) names2).bind fun r13=>if (!r13)=true then some (.inr (.inr (0,false))) else M2.l1 K r1 names2 i6 m (IntKind.wrap .i64 (j10+1)) else none else some (.inl j10)
def M2.l0 (K:Nat) (r1:Rule) (names2:Int):Nat→(Int×Int)→Option ((Int×Int) ⊕ (Int×Bool))
 | 0,_=>none
 | m+1,(k5,i6)=>if i6<(r1.Conj.length:Int) then if 0≤i6 then if 64<(((rd r1.Conj i6).Seq).length:Int) then some (.inr (0,false)) else brk (M2.l1 K r1 names2 i6 K 0) fun j10=>M2.l0 K r1 names2 m (IntKind.wrap .i64 (k5+(((rd r1.Conj i6).Seq).length:Int)),IntKind.wrap .i64 (i6+1)) else none else some (.inl (k5,i6))
def M2 (K:Nat) (r1:Rule) (names2:Int):Option (Int×Bool):=if (r1.Conj.length:Int)<1 then some (0,false) else if 8<(r1.Conj.length:Int) then some (0,false) else brk (M2.l0 K r1 names2 K (0,0)) fun (k5,i6)=>some (k5,true)
theorem ma (K:Nat) (r1:Rule) (names2:Int):Pure Try.prog 46 [.agg (cRule.e r1),Ai .i64 names2] (M2 K r1 names2) (fun r=>.tup [Ai .i64 r.1,Ab r.2]):=by
 refine spec_of' Try.func46 rfl Try.ntmps46 (le_ rfl) ?_
 refine sSR Y<|sQ (P7 (az:=cRule.e r1) Y cAgg) Y<|sA Y Y<|sA Y Y<|sES Y<|sA Y Y<|j0<|W0<|sSR Y<|sQ (dFA fa61_1 Y) Y<|sQ (dLd g59 Y Y) Y<|sQ (L4 Try.underlying59 Y) Y<|sQ (dLt Y Y) Y<|sM Y Y<|M3 (fun h3=>?_) (fun h3=>?_)
 ·refine sU 4 Y Y Y (dT h3) Y Y<|sU 4 Y Y Y (dT h3) Y Y<|sU 4 Y Y Y (dT h3) Y Y<|sU 4 Y Y Y (dT h3) Y Y<|sQ (G0 Y (dT h3) Y) Y<|j0<|M4 Y Y<|sSR Y<|sA Y Y<|sA Y Y<|j0<|m8 [] Try.func46 Try.results46 (rT Y) (rT Y) ⟨Y,Y⟩
 ·refine sG 4 Y Y Y (dF h3) Y (dFA fa61_1 Y) Y<|sG 4 Y Y Y (dF h3) Y (dLd g59 Y Y) Y<|sG 4 Y Y Y (dF h3) Y (L4 Try.underlying59 Y) Y<|sG 4 Y Y Y (dF h3) Y (dGt Y Y) Y<|sQ (P0 Y (dF h3) Y) Y<|j0<|P3 Y (fun h4=>?_) (fun h4=>?_)
  ·refine sSR Y<|sA Y Y<|sA Y Y<|j0<|m8 [] Try.func46 Try.results46 (rT Y) (rT Y) ⟨Y,Y⟩
  ·refine P1<|W0<|sSR Y<|sA Y Y<|j0<|G8 (M2.l0 K r1 names2) (fun ((k5,i6):(Int×Int)) (_:Unit)=>([(1,Ai .i64 names2),(2,.fptr ((cRule.e r1))),(6,Ai .i64 k5),(7,Ai .i64 i6)]:Fr)) (fun ((k5,i6):(Int×Int)) (_:Unit)=>([]:List Res)) () (fun _=>Y) [] ⟨Y,Y,Y,Y,trivial⟩ Y ?_ ?_
   ·rintro ⟨k5,i6⟩ _
    refine sSR Y<|sM Y Y<|sA Y Y<|sA Y Y<|j0<|m8 [] Try.func46 Try.results46 (rT Y) (rT Y) ⟨Y,Y⟩
   ·rintro m ⟨k5,i6⟩ _ again0 out0
    refine W0<|sSR Y<|sM Y Y<|sQ (dFA fa61_1 Y) Y<|sQ (dLd g59 Y Y) Y<|sQ (L4 Try.underlying59 Y) Y<|sQ (dLt Y Y) Y<|j0<|P3 Y (fun h7=>?_) (fun h7=>?_)
    ·refine P1<|W0<|J6<|sSR Y<|sQ (dFA fa61_1 Y) Y<|sQ (dLd g59 Y Y) Y<|sM Y Y<|V5 fun h8=>sQ (dIx Try.underlying59 z58 Y Y h8 h7) Y<|sQ (dFA fa58_1 Y) Y<|sQ (dLd g56 Y Y) Y<|sA Y Y<|j0<|W0<|sSR Y<|sM Y Y<|sQ (L4 Try.underlying56 Y) Y<|sQ (dGt Y Y) Y<|j0<|P3 Y (fun h9=>?_) (fun h9=>?_)
     ·refine sSR Y<|sA Y Y<|sA Y Y<|j0<|y6<|m8 [] Try.func46 Try.results46 (rT Y) (rT Y) ⟨Y,Y⟩
     ·refine P1<|W0<|sSR Y<|sA Y Y<|j0<|G8 (M2.l1 K r1 names2 i6) (fun (j10:Int) (_:Unit)=>([(1,Ai .i64 names2),(2,.fptr ((cRule.e r1))),(6,Ai .i64 k5),(7,Ai .i64 i6),(8,.fsl cSymbol ((rd r1.Conj i6).Seq)),(9,Ai .i64 j10)]:Fr)) (fun (j10:Int) (_:Unit)=>([]:List Res)) () (fun _=>Y) [] ⟨Y,Y,Y,Y,Y,Y,trivial⟩ Y ?_ ?_
      ·rintro j10 _
       refine y4 Y<|sM Y Y<|sM Y Y<|sQ (L4 Try.underlying56 Y) Y<|sQ (L5 Y Y) Y<|sA Y Y<|j0<|Q2<|y4 Y<|sM Y Y<|sQ (L5 Y Y) Y<|sA Y Y<|j0<|Q3 (again0 (IntKind.wrap .i64 (k5+(((rd r1.Conj i6).Seq).length:Int)),IntKind.wrap .i64 (i6+1)) ()) [] ⟨Y,Y,Y,Y,trivial⟩ Y
      ·rintro m j10 _ again1 out1
       refine W0<|sSR Y<|sM Y Y<|sM Y Y<|sQ (L4 Try.underlying56 Y) Y<|sQ (dLt Y Y) Y<|j0<|P3 Y (fun h11=>?_) (fun h11=>?_)
       ·refine P1<|W0<|J6<|sSR Y<|sM Y Y<|sM Y Y<|V5 fun h12=>sQ (dIx Try.underlying56 z51 Y Y h12 h11) Y<|sQ (m7 g51 z51 Y (le_ Y)) Y<|sM Y Y<|j4 fun r13 e14=>sQ (J4 ent62 (V9 K _ _) e14 (.s Y<|.s Y .nil)) Y<|sQ (z8 Y) Y<|j0<|k6 Y (fun h15=>?_) (fun h15=>?_)
        ·refine sSR Y<|sA Y Y<|sA Y Y<|j0<|y6<|y6<|m8 [] Try.func46 Try.results46 (rT Y) (rT Y) ⟨Y,Y⟩
        ·refine P1<|Q2<|y4 Y<|sM Y Y<|sQ (L5 Y Y) Y<|sA Y Y<|j0<|Q3 (again1 (IntKind.wrap .i64 (j10+1)) ()) [] ⟨Y,Y,Y,Y,Y,Y,trivial⟩ Y
       ·refine W4 Y<|Q3 (out1 j10 ()) [] ⟨Y,Y,Y,Y,Y,Y,trivial⟩ Y
    ·refine W4 Y<|Q3 (out0 (k5,i6) ()) [] ⟨Y,Y,Y,Y,trivial⟩ Y
def W1.l1 (K:Nat) (g1:Grammar):Nat→(Int×Int×Int)→Option ((Int×Int×Int) ⊕ Bool)
 | 0,_=>none
 | m+1,(head17,many18,i19)=>if i19<(g1.Rules.length:Int) then if 0≤i19 then brk (if ((rd g1.Rules i19).Head)<0 then some (.inr (.inr false)) else if ((rd g1.Rules i19).Head)≠head17 then if ((rd g1.Rules i19).Head)≠(IntKind.wrap .i64 (head17+1)) then some (.inr (.inr false)) else if (g1.Names.length:Int)≤((rd g1.Rules i19).Head) then some (.inr (.inr false)) else some (.inl ()) else if (g1.Names.length:Int)≤((rd g1.Rules i19).Head) then some (.inr (.inr false)) else some (.inl ())) fun _=>(M2 K (rd g1.Rules i19) (g1.Names.length:Int)).bind fun r28=>if (!r28.2)=true then some (.inr false) else W1.l1 K g1 m ((rd g1.Rules i19).Head,IntKind.wrap .i64 (many18+r28.1),IntKind.wrap .i64 (i19+1)) else none else some (.inl (head17,many18,i19))
def W1.l0 (K:Nat) (g1:Grammar):Nat→Int→Option (Int ⊕ Bool)
 | 0,_=>none
 | m+1,i8=>if i8<(g1.Names.length:Int) then if 0≤i8 then (P4 K (rd g1.Names i8)).bind fun r11=>if (!r11)=true then some (.inr false) else (P5 K g1.Names (rd g1.Names i8)).bind fun r14=>if r14≠i8 then some (.inr false) else W1.l0 K g1 m (IntKind.wrap .i64 (i8+1)) else none else some (.inl i8)
def W1 (K:Nat) (g1:Grammar):Option Bool:=if (g1.Names.length:Int)<1 then some false else if 64<(g1.Names.length:Int) then some false else if g1.Start<0 then some false else if (g1.Names.length:Int)≤g1.Start then some false else if (g1.Rules.length:Int)<1 then some false else if 256<(g1.Rules.length:Int) then some false else brk (W1.l0 K g1 K 0) fun i8=>brk (W1.l1 K g1 K ((-1),0,0)) fun (head17,many18,i19)=>if head17=(IntKind.wrap .i64 ((g1.Names.length:Int)-1)) then some (decide (many18≤1024)) else some false
theorem k8 (K:Nat) (g1:Grammar):Pure Try.prog 24 [.agg (cGrammar.e g1)] (W1 K g1) (fun r=>Ab r):=by
 refine spec_of' Try.func24 rfl Try.ntmps24 (le_ rfl) ?_
 refine sSR Y<|sQ (P7 (az:=cGrammar.e g1) Y cAgg) Y<|sA Y Y<|j0<|W0<|sSR Y<|sQ (dFA fa25_1 Y) Y<|sQ (dLd g22 Y Y) Y<|sQ (L4 Try.underlying22 Y) Y<|sQ (dLt Y Y) Y<|sM Y Y<|M3 (fun h2=>?_) (fun h2=>?_)
 ·refine sU 4 Y Y Y (dT h2) Y Y<|sU 4 Y Y Y (dT h2) Y Y<|sU 4 Y Y Y (dT h2) Y Y<|sU 4 Y Y Y (dT h2) Y Y<|sQ (G0 Y (dT h2) Y) Y<|sM Y Y<|sU 10 Y Y Y Y Y Y<|sU 10 Y Y Y Y Y Y<|sU 10 Y Y Y Y Y Y<|sQ (G0 Y Y Y) Y<|sM Y Y<|sU 15 Y Y Y Y Y Y<|sU 15 Y Y Y Y Y Y<|sU 15 Y Y Y Y Y Y<|sU 15 Y Y Y Y Y Y<|sU 15 Y Y Y Y Y Y<|sU 15 Y Y Y Y Y Y<|sQ (G0 Y Y Y) Y<|sM Y Y<|sU 23 Y Y Y Y Y Y<|sU 23 Y Y Y Y Y Y<|sU 23 Y Y Y Y Y Y<|sU 23 Y Y Y Y Y Y<|sQ (G0 Y Y Y) Y<|sM Y Y<|sU 29 Y Y Y Y Y Y<|sU 29 Y Y Y Y Y Y<|sU 29 Y Y Y Y Y Y<|sU 29 Y Y Y Y Y Y<|sQ (G0 Y Y Y) Y<|j0<|M4 Y Y<|sSR Y<|sA Y Y<|j0<|M0 [] Try.func24 Try.results24 (rT Y) ⟨Y,Y⟩
 ·refine sG 4 Y Y Y (dF h2) Y (dFA fa25_1 Y) Y<|sG 4 Y Y Y (dF h2) Y (dLd g22 Y Y) Y<|sG 4 Y Y Y (dF h2) Y (L4 Try.underlying22 Y) Y<|sG 4 Y Y Y (dF h2) Y (dGt Y Y) Y<|sQ (P0 Y (dF h2) Y) Y<|sM Y Y<|M3 (fun h3=>?_) (fun h3=>?_)
  ·refine sU 10 Y Y Y (dT h3) Y Y<|sU 10 Y Y Y (dT h3) Y Y<|sU 10 Y Y Y (dT h3) Y Y<|sQ (G0 Y (dT h3) Y) Y<|sM Y Y<|sU 15 Y Y Y Y Y Y<|sU 15 Y Y Y Y Y Y<|sU 15 Y Y Y Y Y Y<|sU 15 Y Y Y Y Y Y<|sU 15 Y Y Y Y Y Y<|sU 15 Y Y Y Y Y Y<|sQ (G0 Y Y Y) Y<|sM Y Y<|sU 23 Y Y Y Y Y Y<|sU 23 Y Y Y Y Y Y<|sU 23 Y Y Y Y Y Y<|sU 23 Y Y Y Y Y Y<|sQ (G0 Y Y Y) Y<|sM Y Y<|sU 29 Y Y Y Y Y Y<|sU 29 Y Y Y Y Y Y<|sU 29 Y Y Y Y Y Y<|sU 29 Y Y Y Y Y Y<|sQ (G0 Y Y Y) Y<|j0<|M4 Y Y<|sSR Y<|sA Y Y<|j0<|M0 [] Try.func24 Try.results24 (rT Y) ⟨Y,Y⟩
  ·refine sG 10 Y Y Y (dF h3) Y (dFA fa25_0 Y) Y<|sG 10 Y Y Y (dF h3) Y (dLd g3 Y Y) Y<|sG 10 Y Y Y (dF h3) Y (dLt Y Y) Y<|sQ (P0 Y (dF h3) Y) Y<|sM Y Y<|M3 (fun h4=>?_) (fun h4=>?_)
   ·refine sU 15 Y Y Y (dT h4) Y Y<|sU 15 Y Y Y (dT h4) Y Y<|sU 15 Y Y Y (dT h4) Y Y<|sU 15 Y Y Y (dT h4) Y Y<|sU 15 Y Y Y (dT h4) Y Y<|sU 15 Y Y Y (dT h4) Y Y<|sQ (G0 Y (dT h4) Y) Y<|sM Y Y<|sU 23 Y Y Y Y Y Y<|sU 23 Y Y Y Y Y Y<|sU 23 Y Y Y Y Y Y<|sU 23 Y Y Y Y Y Y<|sQ (G0 Y Y Y) Y<|sM Y Y<|sU 29 Y Y Y Y Y Y<|sU 29 Y Y Y Y Y Y<|sU 29 Y Y Y Y Y Y<|sU 29 Y Y Y Y Y Y<|sQ (G0 Y Y Y) Y<|j0<|M4 Y Y<|sSR Y<|sA Y Y<|j0<|M0 [] Try.func24 Try.results24 (rT Y) ⟨Y,Y⟩
   ·refine sG 15 Y Y Y (dF h4) Y (dFA fa25_0 Y) Y<|sG 15 Y Y Y (dF h4) Y (dLd g3 Y Y) Y<|sG 15 Y Y Y (dF h4) Y (dFA fa25_1 Y) Y<|sG 15 Y Y Y (dF h4) Y (dLd g22 Y Y) Y<|sG 15 Y Y Y (dF h4) Y (L4 Try.underlying22 Y) Y<|sG 15 Y Y Y (dF h4) Y (dGe Y Y) Y<|sQ (P0 Y (dF h4) Y) Y<|sM Y Y<|M3 (fun h5=>?_) (fun h5=>?_)
    ·refine sU 23 Y Y Y (dT h5) Y Y<|sU 23 Y Y Y (dT h5) Y Y<|sU 23 Y Y Y (dT h5) Y Y<|sU 23 Y Y Y (dT h5) Y Y<|sQ (G0 Y (dT h5) Y) Y<|sM Y Y<|sU 29 Y Y Y Y Y Y<|sU 29 Y Y Y Y Y Y<|sU 29 Y Y Y Y Y Y<|sU 29 Y Y Y Y Y Y<|sQ (G0 Y Y Y) Y<|j0<|M4 Y Y<|sSR Y<|sA Y Y<|j0<|M0 [] Try.func24 Try.results24 (rT Y) ⟨Y,Y⟩
    ·refine sG 23 Y Y Y (dF h5) Y (dFA fa25_2 Y) Y<|sG 23 Y Y Y (dF h5) Y (dLd g23 Y Y) Y<|sG 23 Y Y Y (dF h5) Y (L4 Try.underlying23 Y) Y<|sG 23 Y Y Y (dF h5) Y (dLt Y Y) Y<|sQ (P0 Y (dF h5) Y) Y<|sM Y Y<|M3 (fun h6=>?_) (fun h6=>?_)
     ·refine sU 29 Y Y Y (dT h6) Y Y<|sU 29 Y Y Y (dT h6) Y Y<|sU 29 Y Y Y (dT h6) Y Y<|sU 29 Y Y Y (dT h6) Y Y<|sQ (G0 Y (dT h6) Y) Y<|j0<|M4 Y Y<|sSR Y<|sA Y Y<|j0<|M0 [] Try.func24 Try.results24 (rT Y) ⟨Y,Y⟩
     ·refine sG 29 Y Y Y (dF h6) Y (dFA fa25_2 Y) Y<|sG 29 Y Y Y (dF h6) Y (dLd g23 Y Y) Y<|sG 29 Y Y Y (dF h6) Y (L4 Try.underlying23 Y) Y<|sG 29 Y Y Y (dF h6) Y (dGt Y Y) Y<|sQ (P0 Y (dF h6) Y) Y<|j0<|P3 Y (fun h7=>?_) (fun h7=>?_)
      ·refine sSR Y<|sA Y Y<|j0<|M0 [] Try.func24 Try.results24 (rT Y) ⟨Y,Y⟩
      ·refine P1<|W0<|sSR Y<|sA Y Y<|j0<|G8 (W1.l0 K g1) (fun (i8:Int) (_:Unit)=>([(1,.fptr ((cGrammar.e g1))),(3,Ai .i64 i8)]:Fr)) (fun (i8:Int) (_:Unit)=>([]:List Res)) () (fun _=>Y) [] ⟨Y,Y,trivial⟩ Y ?_ ?_
       ·rintro i8 _
        refine sSR Y<|sA Y Y<|sA Y Y<|j0<|W0<|sSR Y<|sA Y Y<|j0<|G8 (W1.l1 K g1) (fun ((head17,many18,i19):(Int×Int×Int)) (_:Unit)=>([(1,.fptr ((cGrammar.e g1))),(4,Ai .i64 head17),(5,Ai .i64 many18),(6,Ai .i64 i19)]:Fr)) (fun ((head17,many18,i19):(Int×Int×Int)) (_:Unit)=>([]:List Res)) () (fun _=>Y) [] ⟨Y,Y,Y,Y,trivial⟩ Y ?_ ?_
        ·rintro ⟨head17,many18,i19⟩ _
         refine sSR Y<|sM Y Y<|sQ (dFA fa25_1 Y) Y<|sQ (dLd g22 Y Y) Y<|sQ (L4 Try.underlying22 Y) Y<|sQ (mc Y Y) Y<|sQ (dEq Y Y) Y<|sM Y Y<|M3 (fun h31=>?_) (fun h31=>?_)
         ·refine sG 6 Y Y Y (dT h31) Y (dMv Y) Y<|sG 6 Y Y Y (dT h31) Y (dLe Y Y) Y<|sQ (G0 Y (dT h31) Y) Y<|sA Y Y<|j0<|M0 [] Try.func24 Try.results24 (rT Y) ⟨Y,Y⟩
         ·refine sU 6 Y Y Y (dF h31) Y Y<|sU 6 Y Y Y (dF h31) Y Y<|sQ (P0 Y (dF h31) Y) Y<|sA Y Y<|j0<|M0 [] Try.func24 Try.results24 (rT Y) ⟨Y,Y⟩
        ·rintro m ⟨head17,many18,i19⟩ _ again1 out1
         refine W0<|sSR Y<|sM Y Y<|sQ (dFA fa25_2 Y) Y<|sQ (dLd g23 Y Y) Y<|sQ (L4 Try.underlying23 Y) Y<|sQ (dLt Y Y) Y<|j0<|P3 Y (fun h20=>?_) (fun h20=>?_)
         ·refine P1<|W0<|J6<|sSR Y<|sQ (dFA fa25_2 Y) Y<|sQ (dLd g23 Y Y) Y<|sM Y Y<|V5 fun h21=>sQ (dIx Try.underlying23 z61 Y Y h21 h20) Y<|sQ (dFA fa61_0 Y) Y<|sQ (dLd g3 Y Y) Y<|sA Y Y<|j0<|W0<|W0<|jd (fun (_:Unit) (_:Unit)=>([(1,.fptr ((cGrammar.e g1))),(5,Ai .i64 many18),(6,Ai .i64 i19),(7,Ai .i64 ((rd g1.Rules i19).Head))]:Fr)) (fun (_:Unit) (_:Unit)=>([]:List Res)) ?_ ?_
          ·rintro _ _
           refine sSR Y<|sM Y Y<|sA Y Y<|j0<|W0<|Ga fun r28 e29=>G6 14 mixed Y (by kernel_rfl) (by kernel_rfl) (by kernel_rfl) (.r (dFA fa25_2 Y) Y<|.r (dLd g23 Y Y) Y<|.m Y Y<|.r (dIx Try.underlying23 z61 Y Y h21 h20) Y<|.r (m7 g61 z61 Y (le_ Y)) Y<|.r (dFA fa25_1 Y) Y<|.r (dLd g22 Y Y) Y<|.r (L4 Try.underlying22 Y) Y<|.r (J4 ent46 (ma K _ _) e29 (.s Y<|.s Y .nil)) Y<|.m Y Y<|.r (dX Y Y) Y<|.r (dX Y Y) Y<|.r (dAs Y) Y<|.r (dAs Y) Y .n) Y<|j0<|W0<|sSR Y<|sM Y Y<|sQ (z8 Y) Y<|j0<|k6 Y (fun h30=>?_) (fun h30=>?_)
           ·refine sSR Y<|sA Y Y<|j0<|y6<|M0 [] Try.func24 Try.results24 (rT Y) ⟨Y,Y⟩
           ·refine P1<|y4 Y<|sM Y Y<|sM Y Y<|sQ (L5 Y Y) Y<|sA Y Y<|j0<|Q2<|y4 Y<|sM Y Y<|sQ (L5 Y Y) Y<|sA Y Y<|j0<|Q3 (again1 ((rd g1.Rules i19).Head,IntKind.wrap .i64 (many18+r28.1),IntKind.wrap .i64 (i19+1)) ()) [] ⟨Y,Y,Y,Y,trivial⟩ Y
          ·intro join21
           refine y4 Y<|sM Y Y<|sQ (dLt Y Y) Y<|sM Y Y<|M3 (fun h23=>?_) (fun h23=>?_)
           ·refine sU 2 Y Y Y (dT h23) Y Y<|sU 2 Y Y Y (dT h23) Y Y<|sU 2 Y Y Y (dT h23) Y Y<|sU 2 Y Y Y (dT h23) Y Y<|sQv (j:=6) Y Y Y Y Y<|sQv (j:=6) Y Y Y Y Y<|sQv (j:=6) Y Y Y Y Y<|sQv (j:=6) Y Y Y Y Y<|sU 2 Y Y Y (dT h23) Y Y<|sQ (G0 Y (dT h23) Y) Y<|sM Y Y<|sU 13 Y Y Y Y Y Y<|sU 13 Y Y Y Y Y Y<|sU 13 Y Y Y Y Y Y<|sU 13 Y Y Y Y Y Y<|sU 13 Y Y Y Y Y Y<|sQ (G0 Y Y Y) Y<|j0<|M4 Y Y<|sSR Y<|sA Y Y<|j0<|y6<|y6<|M0 [] Try.func24 Try.results24 (rT Y) ⟨Y,Y⟩
           ·refine sG 2 Y Y Y (dF h23) Y (dMv Y) Y<|sG 2 Y Y Y (dF h23) Y (dMv Y) Y<|sG 2 Y Y Y (dF h23) Y (dNe Y Y) Y<|sG 2 Y Y Y (dF h23) Y (dMv Y) Y<|M3 (fun h24=>?_) (fun h24=>?_)
            ·refine sG 6 Y Y Y (dT h24) Y (dMv Y) Y<|sG 6 Y Y Y (dT h24) Y (dMv Y) Y<|sG 6 Y Y Y (dT h24) Y (L5 Y Y) Y<|sG 6 Y Y Y (dT h24) Y (dNe Y Y) Y<|sG 2 Y Y Y (dF h23) Y (G0 Y (dT h24) Y) Y<|sQ (P0 Y (dF h23) Y) Y<|sM Y Y<|M3 (fun h25=>?_) (fun h25=>?_)
             ·refine sU 13 Y Y Y (dT h25) Y Y<|sU 13 Y Y Y (dT h25) Y Y<|sU 13 Y Y Y (dT h25) Y Y<|sU 13 Y Y Y (dT h25) Y Y<|sU 13 Y Y Y (dT h25) Y Y<|sQ (G0 Y (dT h25) Y) Y<|j0<|M4 Y Y<|sSR Y<|sA Y Y<|j0<|y6<|y6<|M0 [] Try.func24 Try.results24 (rT Y) ⟨Y,Y⟩
             ·refine sG 13 Y Y Y (dF h25) Y (dMv Y) Y<|sG 13 Y Y Y (dF h25) Y (dFA fa25_1 Y) Y<|sG 13 Y Y Y (dF h25) Y (dLd g22 Y Y) Y<|sG 13 Y Y Y (dF h25) Y (L4 Try.underlying22 Y) Y<|sG 13 Y Y Y (dF h25) Y (dGe Y Y) Y<|sQ (P0 Y (dF h25) Y) Y<|j0<|P3 Y (fun h26=>?_) (fun h26=>?_)
              ·refine sSR Y<|sA Y Y<|j0<|y6<|y6<|M0 [] Try.func24 Try.results24 (rT Y) ⟨Y,Y⟩
              ·refine P1<|Q3 (join21 () ()) [] ⟨Y,Y,Y,Y,trivial⟩ Y
            ·refine sU 6 Y Y Y (dF h24) Y Y<|sU 6 Y Y Y (dF h24) Y Y<|sU 6 Y Y Y (dF h24) Y Y<|sU 6 Y Y Y (dF h24) Y Y<|sG 2 Y Y Y (dF h23) Y (P0 Y (dF h24) Y) Y<|sQ (P0 Y (dF h23) Y) Y<|sM Y Y<|sG 13 Y Y Y Y Y (dMv Y) Y<|sG 13 Y Y Y Y Y (dFA fa25_1 Y) Y<|sG 13 Y Y Y Y Y (dLd g22 Y Y) Y<|sG 13 Y Y Y Y Y (L4 Try.underlying22 Y) Y<|sG 13 Y Y Y Y Y (dGe Y Y) Y<|sQ (P0 Y Y Y) Y<|j0<|P3 Y (fun h27=>?_) (fun h27=>?_)
             ·refine sSR Y<|sA Y Y<|j0<|y6<|y6<|M0 [] Try.func24 Try.results24 (rT Y) ⟨Y,Y⟩
             ·refine P1<|Q3 (join21 () ()) [] ⟨Y,Y,Y,Y,trivial⟩ Y
         ·refine W4 Y<|Q3 (out1 (head17,many18,i19) ()) [] ⟨Y,Y,Y,Y,trivial⟩ Y
       ·rintro m i8 _ again0 out0
        refine W0<|sSR Y<|sM Y Y<|sQ (dFA fa25_1 Y) Y<|sQ (dLd g22 Y Y) Y<|sQ (L4 Try.underlying22 Y) Y<|sQ (dLt Y Y) Y<|j0<|P3 Y (fun h9=>?_) (fun h9=>?_)
        ·refine P1<|W0<|J6<|W0<|sIf fun h10=>Ga fun r11 e12=>ga (fun h13=>?_) (fun h13=>?_)
         ·refine G6 19 mixed Y (by kernel_rfl) (by kernel_rfl) (by kernel_rfl) (.r (dFA fa25_1 Y) Y<|.r (dLd g22 Y Y) Y<|.m Y Y<|.r (dIx Try.underlying22 z9 Y Y h10 h9) Y<|.r (dLd g9 Y Y) Y<|.r (J4 ent44 (V8 K _) e12 (.s Y .nil)) Y<|.r (z8 Y) Y<|.m Y Y<|.w 7 Y Y Y h13 Y Y<|.w 7 Y Y Y h13 Y Y<|.w 7 Y Y Y h13 Y Y<|.w 7 Y Y Y h13 Y Y<|.w 7 Y Y Y h13 Y Y<|.w 7 Y Y Y h13 Y Y<|.w 7 Y Y Y h13 Y Y<|.w 7 Y Y Y h13 Y Y<|.w 7 Y Y Y h13 Y Y<|.w 7 Y Y Y h13 Y Y<|.r (G0 Y h13 Y) Y .n) Y<|j0<|M4 Y Y<|sSR Y<|sA Y Y<|j0<|y6<|M0 [] Try.func24 Try.results24 (rT Y) ⟨Y,Y⟩
         ·refine Ga fun r14 e15=>G6 19 mixed Y (by kernel_rfl) (by kernel_rfl) (by kernel_rfl) (.r (dFA fa25_1 Y) Y<|.r (dLd g22 Y Y) Y<|.m Y Y<|.r (dIx Try.underlying22 z9 Y Y h10 h9) Y<|.r (dLd g9 Y Y) Y<|.r (J4 ent44 (V8 K _) e12 (.s Y .nil)) Y<|.r (z8 Y) Y<|.m Y Y<|.g 7 Y Y Y (eF h13) Y (dFA fa25_1 Y) Y<|.g 7 Y Y Y (eF h13) Y (dLd g22 Y Y) Y<|.g 7 Y Y Y (eF h13) Y (dFA fa25_1 Y) Y<|.g 7 Y Y Y (eF h13) Y (dLd g22 Y Y) Y<|.g 7 Y Y Y (eF h13) Y (dMv Y) Y<|.g 7 Y Y Y (eF h13) Y (dIx Try.underlying22 z9 Y Y h10 h9) Y<|.g 7 Y Y Y (eF h13) Y (dLd g9 Y Y) Y<|.g 7 Y Y Y (eF h13) Y (J4 ent45 (cb K _ _) e15 (.s Y<|.s Y .nil)) Y<|.g 7 Y Y Y (eF h13) Y (dMv Y) Y<|.g 7 Y Y Y (eF h13) Y (dNe Y Y) Y<|.r (P0 Y (eF h13) Y) Y .n) Y<|j0<|P3 Y (fun h16=>?_) (fun h16=>?_)
          ·refine sSR Y<|sA Y Y<|j0<|y6<|M0 [] Try.func24 Try.results24 (rT Y) ⟨Y,Y⟩
          ·refine P1<|Q2<|y4 Y<|sM Y Y<|sQ (L5 Y Y) Y<|sA Y Y<|j0<|Q3 (again0 (IntKind.wrap .i64 (i8+1)) ()) [] ⟨Y,Y,trivial⟩ Y
        ·refine W4 Y<|Q3 (out0 i8 ()) [] ⟨Y,Y,trivial⟩ Y
end Go.Proofs.Ytgmnohjaciemmaa

