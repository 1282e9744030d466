import Derived.Test.YtgmnohjaciemmaaW5
namespace Go.Proofs.Ytgmnohjaciemmaa
open S
set_option linter.unusedVariables false
set_option maxRecDepth 100000
set_option maxHeartbeats 4000000
def P0.l1 (K:Nat) (ps2:(List Place)) (r7:((List Place)×Int)) (k77:Int):Nat→(Bool×Int)→Option (Bool×Int)
 | 0,_=>none
 | m+1,(found79,m80)=>if m80<(r7.1.length:Int) then if found79=true then P0.l1 K ps2 r7 k77 m (true,IntKind.wrap .i64 (m80+1)) else if 0≤m80 then if 0≤k77 then P0.l1 K ps2 r7 k77 m (decide ((rd r7.1 m80)=(rd ps2 k77)),IntKind.wrap .i64 (m80+1)) else none else none else some (found79,m80)
def P0.l0 (K:Nat) (ps2:(List Place)) (r7:((List Place)×Int)):Nat→Int→Option (Int ⊕ Bool)
 | 0,_=>none
 | m+1,k77=>if k77<(ps2.length:Int) then (P0.l1 K ps2 r7 k77 K (false,0)).bind fun (found79,m80)=>if (!found79)=true then some (.inr false) else P0.l0 K ps2 r7 m (IntKind.wrap .i64 (k77+1)) else some (.inl k77)
def P0 (K:Nat) (g1:Grammar) (ps2:(List Place)) (qs3:(List Place)):Option Bool:=(k4 K).bind fun r4=>if (!r4)=true then some false else (P3 K g1 ps2).bind fun r7=>(P3 K g1 qs3).bind fun r10=>(V1 K r7.2).bind fun r13=>if r13≠0 then (if (r7.1.length:Int)=0 then some true else some (decide ((r10.1.length:Int)=0))).bind fun t16=>some t16 else (V1 K r10.2).bind fun r19=>if r19≠0 then (if (r7.1.length:Int)=0 then some true else some (decide ((r10.1.length:Int)=0))).bind fun t22=>some t22 else (P3 K g1 r7.1).bind fun r25=>if (([]:List Place).length+ps2.length)*24≤140737488355328 then if ((([]:List Place)++ps2).length+qs3.length)*24≤140737488355328 then (P3 K g1 ((([]:List Place)++ps2)++qs3)).bind fun r33=>(some ()).bind fun _=>if (([]:List Place).length+r7.1.length)*24≤140737488355328 then if ((([]:List Place)++r7.1).length+r10.1.length)*24≤140737488355328 then (P3 K g1 ((([]:List Place)++r7.1)++r10.1)).bind fun r50=>(some ()).bind fun _=>(V1 K r25.2).bind fun r62=>if r62≠0 then some false else (V1 K r33.2).bind fun r65=>if r65≠0 then some false else (V1 K r50.2).bind fun r68=>if r68≠0 then some false else (G0 K r7.1 r25.1).bind fun r71=>if (!r71)=true then some false else (G0 K r33.1 r50.1).bind fun r74=>if (!r74)=true then some false else brk (P0.l0 K ps2 r7 K 0) fun k77=>some (decide ((r33.1.length:Int)≤(IntKind.wrap .i64 ((r7.1.length:Int)+(r10.1.length:Int))))) else none else none else none else none
theorem J7 (K:Nat) (g1:Grammar) (ps2:(List Place)) (qs3:(List Place)):Pure Try.prog 5 [.agg (cGrammar.e g1),.fsl cPlace ps2,.fsl cPlace qs3] (P0 K g1 ps2 qs3) (fun r=>Ab r):=by
 refine spec_of' Try.func5 rfl Try.ntmps5 (le_ rfl) ?_
 refine sSR Y<|sQ (W8 (az:=cGrammar.e g1) Y cAgg) Y<|sA Y Y<|j0<|P2<|sSR Y<|L4 fun r4 e5=>sQ (j5 ent21 (L8 K) e5 (.nil)) Y<|sQ (V8 Y) Y<|j0<|W6 Y (fun h6=>?_) (fun h6=>?_)
 ·refine sSR Y<|sA Y Y<|j0<|Q1 [] Try.func5 Try.results5 (rT Y) ⟨Y,Y⟩
 ·refine f3<|sSR Y<|sQ (J8 g25 z25 Y (le_ Y)) Y<|sM Y Y<|L4 fun r7 e8=>G7 ent11 (Q6 K _ _) e8 (.s Y<|.s Y .nil) Y fun v9=>sM Y Y<|sQ (dX Y Y) Y<|sQ (dX Y Y) Y<|sA Y Y<|sA Y Y<|sES Y<|sQ (J8 g25 z25 Y (le_ Y)) Y<|sM Y Y<|L4 fun r10 e11=>G7 ent11 (Q6 K _ _) e11 (.s Y<|.s Y .nil) Y fun v12=>sM Y Y<|sQ (dX Y Y) Y<|sQ (dX Y Y) Y<|sA Y Y<|sA Y Y<|j0<|P2<|sSR Y<|sM Y Y<|L4 fun r13 e14=>sQ (j5 ent16 (P4 K _) e14 (.s Y .nil)) Y<|sQ (dNe Y Y) Y<|sM Y Y<|M4 (fun h15=>?_) (fun h15=>?_)
  ·refine sU 3 Y Y Y (dT h15) Y Y<|sU 3 Y Y Y (dT h15) Y Y<|sU 3 Y Y Y (dT h15) Y Y<|sQ (L1 Y (dT h15) Y) Y<|j0<|V5 Y Y<|P2<|J9 (fun (t16:Bool) (_:Unit)=>([(6,Ab t16)]:Fr)) (fun (t16:Bool) (_:Unit)=>([]:List Res)) ?_ ?_
   ·rintro t16 _
    refine Q1 [] Try.func5 Try.results5 (rT Y) ⟨Y,Y⟩
   ·intro join16
    refine j6 Y<|sM Y Y<|sQ (c9 (j:=1) Try.underlying26 Y Y) Y<|sQ (dEq Y Y) Y<|sM Y Y<|M4 (fun h18=>?_) (fun h18=>?_)
    ·refine sU 3 Y Y Y (dT h18) Y Y<|sU 3 Y Y Y (dT h18) Y Y<|sU 3 Y Y Y (dT h18) Y Y<|sQ (L1 Y (dT h18) Y) Y<|sA Y Y<|j0<|m5 (join16 true ()) [] ⟨Y,trivial⟩ Y
    ·refine sG 3 Y Y Y (dF h18) Y (dMv Y) Y<|sG 3 Y Y Y (dF h18) Y (c9 (j:=0) Try.underlying26 Y Y) Y<|sG 3 Y Y Y (dF h18) Y (dEq Y Y) Y<|sQ (V0 Y (dF h18) Y) Y<|sA Y Y<|j0<|m5 (join16 (decide ((r10.1.length:Int)=0)) ()) [] ⟨Y,trivial⟩ Y
  ·refine sG 3 Y Y Y (dF h15) Y (dMv Y) Y<|L4 fun r19 e20=>sG 3 Y Y Y (dF h15) Y (j5 ent16 (P4 K _) e20 (.s Y .nil)) Y<|sG 3 Y Y Y (dF h15) Y (dNe Y Y) Y<|sQ (V0 Y (dF h15) Y) Y<|j0<|b5 Y (fun h21=>?_) (fun h21=>?_)
   ·refine P2<|J9 (fun (t22:Bool) (_:Unit)=>([(6,Ab t22)]:Fr)) (fun (t22:Bool) (_:Unit)=>([]:List Res)) ?_ ?_
    ·rintro t22 _
     refine Q1 [] Try.func5 Try.results5 (rT Y) ⟨Y,Y⟩
    ·intro join22
     refine j6 Y<|sM Y Y<|sQ (c9 (j:=1) Try.underlying26 Y Y) Y<|sQ (dEq Y Y) Y<|sM Y Y<|M4 (fun h24=>?_) (fun h24=>?_)
     ·refine sU 3 Y Y Y (dT h24) Y Y<|sU 3 Y Y Y (dT h24) Y Y<|sU 3 Y Y Y (dT h24) Y Y<|sQ (L1 Y (dT h24) Y) Y<|sA Y Y<|j0<|m5 (join22 true ()) [] ⟨Y,trivial⟩ Y
     ·refine sG 3 Y Y Y (dF h24) Y (dMv Y) Y<|sG 3 Y Y Y (dF h24) Y (c9 (j:=0) Try.underlying26 Y Y) Y<|sG 3 Y Y Y (dF h24) Y (dEq Y Y) Y<|sQ (V0 Y (dF h24) Y) Y<|sA Y Y<|j0<|m5 (join22 (decide ((r10.1.length:Int)=0)) ()) [] ⟨Y,trivial⟩ Y
   ·refine f3<|sSR Y<|sQ (J8 g25 z25 Y (le_ Y)) Y<|sM Y Y<|L4 fun r25 e26=>Gb ent11 Y (Q6 K _ _) e26 (fun _=>flTup ⟨flSv,flLit,trivial⟩) (fun _=>⟨flOwn (c:=cPlace) (fun _=>⟨flLit,flLit,flLit,trivial⟩),trivial⟩) (.s Y<|.o 1 Y Y .nil) Y fun v27=>sM Y Y<|sQ (dX Y Y) Y<|sQ (dX Y Y) Y<|sA Y Y<|sA Y Y<|j0<|P2<|sIf fun h29=>sIf fun h31=>aa fun r33 e34=>J9 (fun (_:Unit) (_:Unit)=>([(1,.fsl cPlace ps2),(3,.fptr ((cGrammar.e g1))),(7,.sv v9),(9,.sv v12),(11,.sv v27),(12,Ai .i64 r25.2),(13,.fsl cPlace r33.1),(14,Ai .i64 r33.2)]:Fr)) (fun (_:Unit) (_:Unit)=>([.own 55 cPlace v9 r7.1,.own 55 cPlace v12 r10.1,.own 55 cPlace v27 r25.1]:List Res)) ?_ ?_
    ·rintro _ _
     refine P2<|sIf fun h46=>sIf fun h48=>aa fun r50 e51=>J9 (fun (_:Unit) (_:Unit)=>([(1,.fsl cPlace ps2),(7,.sv v9),(9,.sv v12),(11,.sv v27),(12,Ai .i64 r25.2),(13,.fsl cPlace r33.1),(14,Ai .i64 r33.2),(15,.fsl cPlace r50.1),(16,Ai .i64 r50.2)]:Fr)) (fun (_:Unit) (_:Unit)=>([.fz cPlace v9 r7.1,.fz cPlace v12 r10.1,.own 55 cPlace v27 r25.1]:List Res)) ?_ ?_
     ·rintro _ _
      refine P2<|sSR Y<|sM Y Y<|L4 fun r62 e63=>sQ (j5 ent16 (P4 K _) e63 (.s Y .nil)) Y<|sQ (dNe Y Y) Y<|sM Y Y<|M4 (fun h64=>?_) (fun h64=>?_)
      ·refine sU 3 Y Y Y (dT h64) Y Y<|sU 3 Y Y Y (dT h64) Y Y<|sU 3 Y Y Y (dT h64) Y Y<|sQ (L1 Y (dT h64) Y) Y<|sM Y Y<|sU 8 Y Y Y Y Y Y<|sU 8 Y Y Y Y Y Y<|sU 8 Y Y Y Y Y Y<|sQ (L1 Y Y Y) Y<|sM Y Y<|sU 13 Y Y Y Y Y Y<|sU 13 Y Y Y Y Y Y<|sU 13 Y Y Y Y Y Y<|sU 13 Y Y Y Y Y Y<|sQ (L1 Y Y Y) Y<|sM Y Y<|sU 19 Y Y Y Y Y Y<|sU 19 Y Y Y Y Y Y<|sU 19 Y Y Y Y Y Y<|sU 19 Y Y Y Y Y Y<|sQ (L1 Y Y Y) Y<|j0<|V5 Y Y<|sSR Y<|sA Y Y<|j0<|Q1 [2,1,0] Try.func5 Try.results5 (rT Y) ⟨Y,Y⟩
      ·refine sG 3 Y Y Y (dF h64) Y (dMv Y) Y<|L4 fun r65 e66=>sG 3 Y Y Y (dF h64) Y (j5 ent16 (P4 K _) e66 (.s Y .nil)) Y<|sG 3 Y Y Y (dF h64) Y (dNe Y Y) Y<|sQ (V0 Y (dF h64) Y) Y<|sM Y Y<|M4 (fun h67=>?_) (fun h67=>?_)
       ·refine sU 8 Y Y Y (dT h67) Y Y<|sU 8 Y Y Y (dT h67) Y Y<|sU 8 Y Y Y (dT h67) Y Y<|sQ (L1 Y (dT h67) Y) Y<|sM Y Y<|sU 13 Y Y Y Y Y Y<|sU 13 Y Y Y Y Y Y<|sU 13 Y Y Y Y Y Y<|sU 13 Y Y Y Y Y Y<|sQ (L1 Y Y Y) Y<|sM Y Y<|sU 19 Y Y Y Y Y Y<|sU 19 Y Y Y Y Y Y<|sU 19 Y Y Y Y Y Y<|sU 19 Y Y Y Y Y Y<|sQ (L1 Y Y Y) Y<|j0<|V5 Y Y<|sSR Y<|sA Y Y<|j0<|Q1 [2,1,0] Try.func5 Try.results5 (rT Y) ⟨Y,Y⟩
       ·refine sG 8 Y Y Y (dF h67) Y (dMv Y) Y<|L4 fun r68 e69=>sG 8 Y Y Y (dF h67) Y (j5 ent16 (P4 K _) e69 (.s Y .nil)) Y<|sG 8 Y Y Y (dF h67) Y (dNe Y Y) Y<|sQ (V0 Y (dF h67) Y) Y<|sM Y Y<|M4 (fun h70=>?_) (fun h70=>?_)
        ·refine sU 13 Y Y Y (dT h70) Y Y<|sU 13 Y Y Y (dT h70) Y Y<|sU 13 Y Y Y (dT h70) Y Y<|sU 13 Y Y Y (dT h70) Y Y<|sQ (L1 Y (dT h70) Y) Y<|sM Y Y<|sU 19 Y Y Y Y Y Y<|sU 19 Y Y Y Y Y Y<|sU 19 Y Y Y Y Y Y<|sU 19 Y Y Y Y Y Y<|sQ (L1 Y Y Y) Y<|j0<|V5 Y Y<|sSR Y<|sA Y Y<|j0<|Q1 [2,1,0] Try.func5 Try.results5 (rT Y) ⟨Y,Y⟩
        ·refine sG 13 Y Y Y (dF h70) Y (dMv Y) Y<|sG 13 Y Y Y (dF h70) Y (dMv Y) Y<|L4 fun r71 e72=>sG 13 Y Y Y (dF h70) Y (cb ent15 (c6 K _ _) e72 flLit (.z 0 Y Y<|.o 2 Y Y .nil)) Y<|sG 13 Y Y Y (dF h70) Y (V8 Y) Y<|sQ (V0 Y (dF h70) Y) Y<|sM Y Y<|M4 (fun h73=>?_) (fun h73=>?_)
         ·refine sU 19 Y Y Y h73 Y Y<|sU 19 Y Y Y h73 Y Y<|sU 19 Y Y Y h73 Y Y<|sU 19 Y Y Y h73 Y Y<|sQ (L1 Y h73 Y) Y<|j0<|V5 Y Y<|sSR Y<|sA Y Y<|j0<|Q1 [2,1,0] Try.func5 Try.results5 (rT Y) ⟨Y,Y⟩
         ·refine sG 19 Y Y Y (eF h73) Y (dMv Y) Y<|sG 19 Y Y Y (eF h73) Y (dMv Y) Y<|L4 fun r74 e75=>sG 19 Y Y Y (eF h73) Y (j5 ent15 (c6 K _ _) e75 (.s Y<|.s Y .nil)) Y<|sG 19 Y Y Y (eF h73) Y (V8 Y) Y<|sQ (V0 Y (eF h73) Y) Y<|j0<|W6 Y (fun h76=>?_) (fun h76=>?_)
          ·refine sSR Y<|sA Y Y<|j0<|Q1 [2,1,0] Try.func5 Try.results5 (rT Y) ⟨Y,Y⟩
          ·refine f3<|P2<|sSR Y<|sA Y Y<|j0<|sUp 7 0 Y Y<|sUp 9 1 Y Y<|qa (P0.l0 K ps2 r7) (fun (k77:Int) (_:Unit)=>([(1,.fsl cPlace ps2),(7,.fsl cPlace r7.1),(9,.fsl cPlace r10.1),(13,.fsl cPlace r33.1),(17,Ai .i64 k77)]:Fr)) (fun (k77:Int) (_:Unit)=>([]:List Res)) () (fun _=>Y) [2,1,0] ⟨Y,Y,Y,Y,Y,trivial⟩ Y ?_ ?_
           ·rintro k77 _
            refine sSR Y<|sM Y Y<|sQ (P6 Try.underlying26 Y) Y<|sM Y Y<|sQ (P6 Try.underlying26 Y) Y<|sM Y Y<|sQ (P6 Try.underlying26 Y) Y<|sQ (P7 Y Y) Y<|sQ (dLe Y Y) Y<|sA Y Y<|j0<|Q1 [] Try.func5 Try.results5 (rT Y) ⟨Y,Y⟩
           ·rintro m k77 _ again0 out0
            refine P2<|sSR Y<|sM Y Y<|sM Y Y<|sQ (P6 Try.underlying26 Y) Y<|sQ (dLt Y Y) Y<|j0<|b5 Y (fun h78=>?_) (fun h78=>?_)
            ·refine f3<|P2<|m8<|sSR Y<|sA Y Y<|j0<|P2<|sSR Y<|sA Y Y<|j0<|sLo (P0.l1 K ps2 r7 k77) (fun ((found79,m80):(Bool×Int)) (_:Unit)=>([(1,.fsl cPlace ps2),(7,.fsl cPlace r7.1),(9,.fsl cPlace r10.1),(13,.fsl cPlace r33.1),(17,Ai .i64 k77),(18,Ab found79),(19,Ai .i64 m80)]:Fr)) (fun ((found79,m80):(Bool×Int)) (_:Unit)=>([]:List Res)) () (fun _=>Y) [] ⟨Y,Y,Y,Y,Y,Y,Y,trivial⟩ Y ?_ ?_
             ·rintro ⟨found79,m80⟩ _
              refine sSR Y<|sM Y Y<|sQ (V8 Y) Y<|j0<|W6 Y (fun h85=>?_) (fun h85=>?_)
              ·refine sSR Y<|sA Y Y<|j0<|q9<|Q1 [] Try.func5 Try.results5 (rT Y) ⟨Y,Y⟩
              ·refine f3<|W4<|j6 Y<|sM Y Y<|sQ (P7 Y Y) Y<|sA Y Y<|j0<|m5 (again0 (IntKind.wrap .i64 (k77+1)) ()) [] ⟨Y,Y,Y,Y,Y,trivial⟩ Y
             ·rintro m ⟨found79,m80⟩ _ again1 out1
              refine P2<|sSR Y<|sM Y Y<|sM Y Y<|sQ (P6 Try.underlying26 Y) Y<|sQ (dLt Y Y) Y<|j0<|b5 Y (fun h81=>?_) (fun h81=>?_)
              ·refine f3<|P2<|m8<|Ja (fun h82=>?_) (fun h82=>?_)
               ·refine f8 13 mixed Y (by kernel_rfl) (by kernel_rfl) (by kernel_rfl) (.m Y Y<|.m Y Y<|.w 1 Y Y Y h82 Y Y<|.w 1 Y Y Y h82 Y Y<|.w 1 Y Y Y h82 Y Y<|.w 1 Y Y Y h82 Y Y<|.w 1 Y Y Y h82 Y Y<|.w 1 Y Y Y h82 Y Y<|.w 1 Y Y Y h82 Y Y<|.w 1 Y Y Y h82 Y Y<|.w 1 Y Y Y h82 Y Y<|.r (L1 Y h82 Y) Y<|.r (dAs Y) Y .n) Y<|j0<|W4<|j6 Y<|sM Y Y<|sQ (P7 Y Y) Y<|sA Y Y<|j0<|m5 (again1 (true,IntKind.wrap .i64 (m80+1)) ()) [] ⟨Y,Y,Y,Y,Y,Y,Y,trivial⟩ Y
               ·refine sIf fun h83=>sIf fun h84=>f8 13 mixed Y (by kernel_rfl) (by kernel_rfl) (by kernel_rfl) (.m Y Y<|.m Y Y<|.g 1 Y Y Y (eF h82) Y (dMv Y) Y<|.g 1 Y Y Y (eF h82) Y (dMv Y) Y<|.g 1 Y Y Y (eF h82) Y (dIx Try.underlying26 z55 Y Y h83 h81) Y<|.g 1 Y Y Y (eF h82) Y (J8 g55 z55 Y (le_ Y)) Y<|.g 1 Y Y Y (eF h82) Y (dMv Y) Y<|.g 1 Y Y Y (eF h82) Y (dMv Y) Y<|.g 1 Y Y Y (eF h82) Y (dIx Try.underlying26 z55 Y Y h84 h78) Y<|.g 1 Y Y Y (eF h82) Y (J8 g55 z55 Y (le_ Y)) Y<|.g 1 Y Y Y (eF h82) Y (eq55 (x:=rd r7.1 m80) (y:=rd ps2 k77) Y Y) Y<|.r (V0 Y (eF h82) Y) Y<|.r (dAs Y) Y .n) Y<|j0<|W4<|j6 Y<|sM Y Y<|sQ (P7 Y Y) Y<|sA Y Y<|j0<|m5 (again1 (decide ((rd r7.1 m80)=(rd ps2 k77)),IntKind.wrap .i64 (m80+1)) ()) [] ⟨Y,Y,Y,Y,Y,Y,Y,trivial⟩ Y
              ·refine g7 Y<|m5 (out1 (found79,m80) ()) [] ⟨Y,Y,Y,Y,Y,Y,Y,trivial⟩ Y
            ·refine g7 Y<|m5 (out0 k77 ()) [] ⟨Y,Y,Y,Y,Y,trivial⟩ Y
     ·intro join51
      refine qb [(0,67,.agg (cGrammar.e g1)),(1,68,.es),(2,69,.sv v9),(4,71,.sv v12)] [3,5,6,7,8,9,10,11] [[3,5,6,7,8,9,10,11],[3,5,6,7,8,10,9,11],[3,5,6,7,9,8,10,11]] mixed (by kernel_rfl) (by kernel_rfl) (by kernel_rfl) (by kernel_rfl) ⟨?_,?_,?_,trivial⟩
      ·refine mE [67,71] [0,1,2,4] (by kernel_rfl) (by kernel_rfl) (by kernel_rfl) (by kernel_rfl) Y Y (.c Y Y Y Y (.r (y7 g25 z25 Y (le_ Y) Y))<|.c Y Y Y Y (.r (fb (c:=cPlace) Try.underlying26 z55 y5))<|.c Y Y Y Y (.r (dMv Y))<|.c Y Y Y Y (.r (dMv Y)) .n) ?_
       intro ab3 l_3 nx3
       refine Wa 68 55 cPlace Y fun v53=>P9 1 Y<|Q9 69 1 Y Y<|sAp (j:=0) Try.underlying26 y5 Y Y Y Y h46 Y Y fun v54=>nx3 (H'':=[.own 55 cPlace v54 (([]:List Place)++r7.1),.fz cPlace v9 r7.1,.own 55 cPlace v12 r10.1,.own 55 cPlace v27 r25.1]) [(68,.sv v53),(69,.fsl cPlace r7.1),(70,.sv v54)] [0,0,0,0] ⟨Y,Y,Y,trivial⟩ (by repeat (first | with_reducible exact .z | refine .s Y ?_)) Y (by kernel_rfl)<|mE [67] [0,4] (by kernel_rfl) (by kernel_rfl) (by kernel_rfl) (by kernel_rfl) Y Y (.c Y Y Y Y (.r (y7 g25 z25 Y (le_ Y) Y))<|.c Y Y Y Y (.r (dMv Y)) .n) ?_
       intro ab5 l5 nx5
       refine P9 2 Y<|Q9 71 2 Y Y<|sAp (j:=0) Try.underlying26 y5 Y Y Y Y h48 Y Y fun v55=>nx5 (H'':=[.own 55 cPlace v55 ((([]:List Place)++r7.1)++r10.1),.fz cPlace v9 r7.1,.fz cPlace v12 r10.1,.own 55 cPlace v27 r25.1]) [(68,.sv v53),(69,.fsl cPlace r7.1),(70,.sv v54),(71,.fsl cPlace r10.1),(72,.sv v55)] [0,0,0,0] ⟨Y,Y,Y,Y,Y,trivial⟩ (by repeat (first | with_reducible exact .z | refine .s Y ?_)) Y (by kernel_rfl)<|mE [] [0] (by kernel_rfl) (by kernel_rfl) (by kernel_rfl) (by kernel_rfl) Y Y (.c Y Y Y Y (.r (y7 g25 z25 Y (le_ Y) Y)) .n) ?_
       intro ab6 l6 nx6
       refine P9 0 Y<|Q9 72 0 Y Y<|sQ (j5 ent11 (z6 K _ _) e51 (.s Y<|.s Y .nil)) Y<|nx6 (H'':=[.fz cPlace v55 ((([]:List Place)++r7.1)++r10.1),.fz cPlace v9 r7.1,.fz cPlace v12 r10.1,.own 55 cPlace v27 r25.1]) [(68,.sv v53),(69,.fsl cPlace r7.1),(70,.sv v54),(71,.fsl cPlace r10.1),(72,.fsl cPlace ((([]:List Place)++r7.1)++r10.1)),(73,.tup [.fsl cPlace r50.1,Ai .i64 r50.2])] [0,0,0,0] ⟨Y,Y,Y,Y,Y,Y,trivial⟩ (by repeat (first | with_reducible exact .z | refine .s Y ?_)) Y (by kernel_rfl)<|mE [] [] (by kernel_rfl) (by kernel_rfl) (by kernel_rfl) (by kernel_rfl) Y Y (.n) ?_
       intro ab7 l7 nx7
       refine sM Y Y<|nx7 (H'':=[.fz cPlace v55 ((([]:List Place)++r7.1)++r10.1),.fz cPlace v9 r7.1,.fz cPlace v12 r10.1,.own 55 cPlace v27 r25.1]) [(66,.tup [.fsl cPlace r50.1,Ai .i64 r50.2]),(68,.sv v53),(69,.fsl cPlace r7.1),(70,.sv v54),(71,.fsl cPlace r10.1),(72,.fsl cPlace ((([]:List Place)++r7.1)++r10.1)),(73,.tup [.fsl cPlace r50.1,Ai .i64 r50.2])] [0,0,0,0] ⟨Y,Y,Y,Y,Y,Y,Y,trivial⟩ (by repeat (first | with_reducible exact .z | refine .s Y ?_)) Y (by kernel_rfl)<|mE [] [] (by kernel_rfl) (by kernel_rfl) (by kernel_rfl) (by kernel_rfl) Y Y (.n) ?_
       intro ab8 l8 nx8
       refine sQ (dX Y Y) Y<|nx8 (H'':=[.fz cPlace v55 ((([]:List Place)++r7.1)++r10.1),.fz cPlace v9 r7.1,.fz cPlace v12 r10.1,.own 55 cPlace v27 r25.1]) [(66,.tup [.fsl cPlace r50.1,Ai .i64 r50.2]),(68,.sv v53),(69,.fsl cPlace r7.1),(70,.sv v54),(71,.fsl cPlace r10.1),(72,.fsl cPlace ((([]:List Place)++r7.1)++r10.1)),(73,.tup [.fsl cPlace r50.1,Ai .i64 r50.2]),(74,.fsl cPlace r50.1)] [0,0,0,0] ⟨Y,Y,Y,Y,Y,Y,Y,Y,trivial⟩ (by repeat (first | with_reducible exact .z | refine .s Y ?_)) Y (by kernel_rfl)<|mE [] [] (by kernel_rfl) (by kernel_rfl) (by kernel_rfl) (by kernel_rfl) Y Y (.n) ?_
       intro ab9 l9 nx9
       refine sQ (dX Y Y) Y<|nx9 (H'':=[.fz cPlace v55 ((([]:List Place)++r7.1)++r10.1),.fz cPlace v9 r7.1,.fz cPlace v12 r10.1,.own 55 cPlace v27 r25.1]) [(66,.tup [.fsl cPlace r50.1,Ai .i64 r50.2]),(68,.sv v53),(69,.fsl cPlace r7.1),(70,.sv v54),(71,.fsl cPlace r10.1),(72,.fsl cPlace ((([]:List Place)++r7.1)++r10.1)),(73,.tup [.fsl cPlace r50.1,Ai .i64 r50.2]),(74,.fsl cPlace r50.1),(75,Ai .i64 r50.2)] [0,0,0,0] ⟨Y,Y,Y,Y,Y,Y,Y,Y,Y,trivial⟩ (by repeat (first | with_reducible exact .z | refine .s Y ?_)) Y (by kernel_rfl)<|mE [] [] (by kernel_rfl) (by kernel_rfl) (by kernel_rfl) (by kernel_rfl) Y Y (.n) ?_
       intro ab10 l10 nx10
       refine sA Y Y<|nx10 (H'':=[.fz cPlace v55 ((([]:List Place)++r7.1)++r10.1),.fz cPlace v9 r7.1,.fz cPlace v12 r10.1,.own 55 cPlace v27 r25.1]) [(15,.fsl cPlace r50.1),(66,.tup [.fsl cPlace r50.1,Ai .i64 r50.2]),(68,.sv v53),(69,.fsl cPlace r7.1),(70,.sv v54),(71,.fsl cPlace r10.1),(72,.fsl cPlace ((([]:List Place)++r7.1)++r10.1)),(73,.tup [.fsl cPlace r50.1,Ai .i64 r50.2]),(74,.fsl cPlace r50.1),(75,Ai .i64 r50.2)] [0,0,0,0] ⟨Y,Y,Y,Y,Y,Y,Y,Y,Y,Y,trivial⟩ (by repeat (first | with_reducible exact .z | refine .s Y ?_)) Y (by kernel_rfl)<|mE [] [] (by kernel_rfl) (by kernel_rfl) (by kernel_rfl) (by kernel_rfl) Y Y (.n) ?_
       intro ab11 l11 nx11
       refine sA Y Y<|nx11 (H'':=[.fz cPlace v55 ((([]:List Place)++r7.1)++r10.1),.fz cPlace v9 r7.1,.fz cPlace v12 r10.1,.own 55 cPlace v27 r25.1]) [(15,.fsl cPlace r50.1),(16,Ai .i64 r50.2),(66,.tup [.fsl cPlace r50.1,Ai .i64 r50.2]),(68,.sv v53),(69,.fsl cPlace r7.1),(70,.sv v54),(71,.fsl cPlace r10.1),(72,.fsl cPlace ((([]:List Place)++r7.1)++r10.1)),(73,.tup [.fsl cPlace r50.1,Ai .i64 r50.2]),(74,.fsl cPlace r50.1),(75,Ai .i64 r50.2)] [0,0,0,0] ⟨Y,Y,Y,Y,Y,Y,Y,Y,Y,Y,Y,trivial⟩ (by repeat (first | with_reducible exact .z | refine .s Y ?_)) Y (by kernel_rfl)<|mEnd [] (by kernel_rfl) (by kernel_rfl) (by kernel_rfl) (.n)<|m5 (join51 () ()) [1,1,1] ⟨Y,Y,Y,Y,Y,Y,Y,Y,Y,trivial⟩ Y
      ·refine mE [67,71] [0,1,2,4] (by kernel_rfl) (by kernel_rfl) (by kernel_rfl) (by kernel_rfl) Y Y (.c Y Y Y Y (.r (y7 g25 z25 Y (le_ Y) Y))<|.c Y Y Y Y (.r (fb (c:=cPlace) Try.underlying26 z55 y5))<|.c Y Y Y Y (.r (dMv Y))<|.c Y Y Y Y (.r (dMv Y)) .n) ?_
       intro ab3 l_3 nx3
       refine Wa 68 55 cPlace Y fun v56=>P9 1 Y<|Q9 69 1 Y Y<|sAp (j:=0) Try.underlying26 y5 Y Y Y Y h46 Y Y fun v57=>nx3 (H'':=[.own 55 cPlace v57 (([]:List Place)++r7.1),.fz cPlace v9 r7.1,.own 55 cPlace v12 r10.1,.own 55 cPlace v27 r25.1]) [(68,.sv v56),(69,.fsl cPlace r7.1),(70,.sv v57)] [0,0,0,0] ⟨Y,Y,Y,trivial⟩ (by repeat (first | with_reducible exact .z | refine .s Y ?_)) Y (by kernel_rfl)<|mE [67] [0,4] (by kernel_rfl) (by kernel_rfl) (by kernel_rfl) (by kernel_rfl) Y Y (.c Y Y Y Y (.r (y7 g25 z25 Y (le_ Y) Y))<|.c Y Y Y Y (.r (dMv Y)) .n) ?_
       intro ab5 l5 nx5
       refine P9 2 Y<|Q9 71 2 Y Y<|sAp (j:=0) Try.underlying26 y5 Y Y Y Y h48 Y Y fun v58=>nx5 (H'':=[.own 55 cPlace v58 ((([]:List Place)++r7.1)++r10.1),.fz cPlace v9 r7.1,.fz cPlace v12 r10.1,.own 55 cPlace v27 r25.1]) [(68,.sv v56),(69,.fsl cPlace r7.1),(70,.sv v57),(71,.fsl cPlace r10.1),(72,.sv v58)] [0,0,0,0] ⟨Y,Y,Y,Y,Y,trivial⟩ (by repeat (first | with_reducible exact .z | refine .s Y ?_)) Y (by kernel_rfl)<|mE [] [0] (by kernel_rfl) (by kernel_rfl) (by kernel_rfl) (by kernel_rfl) Y Y (.c Y Y Y Y (.r (y7 g25 z25 Y (le_ Y) Y)) .n) ?_
       intro ab6 l6 nx6
       refine P9 0 Y<|Q9 72 0 Y Y<|sQ (j5 ent11 (z6 K _ _) e51 (.s Y<|.s Y .nil)) Y<|nx6 (H'':=[.fz cPlace v58 ((([]:List Place)++r7.1)++r10.1),.fz cPlace v9 r7.1,.fz cPlace v12 r10.1,.own 55 cPlace v27 r25.1]) [(68,.sv v56),(69,.fsl cPlace r7.1),(70,.sv v57),(71,.fsl cPlace r10.1),(72,.fsl cPlace ((([]:List Place)++r7.1)++r10.1)),(73,.tup [.fsl cPlace r50.1,Ai .i64 r50.2])] [0,0,0,0] ⟨Y,Y,Y,Y,Y,Y,trivial⟩ (by repeat (first | with_reducible exact .z | refine .s Y ?_)) Y (by kernel_rfl)<|mE [] [] (by kernel_rfl) (by kernel_rfl) (by kernel_rfl) (by kernel_rfl) Y Y (.n) ?_
       intro ab7 l7 nx7
       refine sM Y Y<|nx7 (H'':=[.fz cPlace v58 ((([]:List Place)++r7.1)++r10.1),.fz cPlace v9 r7.1,.fz cPlace v12 r10.1,.own 55 cPlace v27 r25.1]) [(66,.tup [.fsl cPlace r50.1,Ai .i64 r50.2]),(68,.sv v56),(69,.fsl cPlace r7.1),(70,.sv v57),(71,.fsl cPlace r10.1),(72,.fsl cPlace ((([]:List Place)++r7.1)++r10.1)),(73,.tup [.fsl cPlace r50.1,Ai .i64 r50.2])] [0,0,0,0] ⟨Y,Y,Y,Y,Y,Y,Y,trivial⟩ (by repeat (first | with_reducible exact .z | refine .s Y ?_)) Y (by kernel_rfl)<|mE [] [] (by kernel_rfl) (by kernel_rfl) (by kernel_rfl) (by kernel_rfl) Y Y (.n) ?_
       intro ab8 l8 nx8
       refine sQ (dX Y Y) Y<|nx8 (H'':=[.fz cPlace v58 ((([]:List Place)++r7.1)++r10.1),.fz cPlace v9 r7.1,.fz cPlace v12 r10.1,.own 55 cPlace v27 r25.1]) [(66,.tup [.fsl cPlace r50.1,Ai .i64 r50.2]),(68,.sv v56),(69,.fsl cPlace r7.1),(70,.sv v57),(71,.fsl cPlace r10.1),(72,.fsl cPlace ((([]:List Place)++r7.1)++r10.1)),(73,.tup [.fsl cPlace r50.1,Ai .i64 r50.2]),(74,.fsl cPlace r50.1)] [0,0,0,0] ⟨Y,Y,Y,Y,Y,Y,Y,Y,trivial⟩ (by repeat (first | with_reducible exact .z | refine .s Y ?_)) Y (by kernel_rfl)<|mE [] [] (by kernel_rfl) (by kernel_rfl) (by kernel_rfl) (by kernel_rfl) Y Y (.n) ?_
       intro ab10 l10 nx10
       refine sA Y Y<|nx10 (H'':=[.fz cPlace v58 ((([]:List Place)++r7.1)++r10.1),.fz cPlace v9 r7.1,.fz cPlace v12 r10.1,.own 55 cPlace v27 r25.1]) [(15,.fsl cPlace r50.1),(66,.tup [.fsl cPlace r50.1,Ai .i64 r50.2]),(68,.sv v56),(69,.fsl cPlace r7.1),(70,.sv v57),(71,.fsl cPlace r10.1),(72,.fsl cPlace ((([]:List Place)++r7.1)++r10.1)),(73,.tup [.fsl cPlace r50.1,Ai .i64 r50.2]),(74,.fsl cPlace r50.1)] [0,0,0,0] ⟨Y,Y,Y,Y,Y,Y,Y,Y,Y,trivial⟩ (by repeat (first | with_reducible exact .z | refine .s Y ?_)) Y (by kernel_rfl)<|mE [] [] (by kernel_rfl) (by kernel_rfl) (by kernel_rfl) (by kernel_rfl) Y Y (.n) ?_
       intro ab9 l9 nx9
       refine sQ (dX Y Y) Y<|nx9 (H'':=[.fz cPlace v58 ((([]:List Place)++r7.1)++r10.1),.fz cPlace v9 r7.1,.fz cPlace v12 r10.1,.own 55 cPlace v27 r25.1]) [(15,.fsl cPlace r50.1),(66,.tup [.fsl cPlace r50.1,Ai .i64 r50.2]),(68,.sv v56),(69,.fsl cPlace r7.1),(70,.sv v57),(71,.fsl cPlace r10.1),(72,.fsl cPlace ((([]:List Place)++r7.1)++r10.1)),(73,.tup [.fsl cPlace r50.1,Ai .i64 r50.2]),(74,.fsl cPlace r50.1),(75,Ai .i64 r50.2)] [0,0,0,0] ⟨Y,Y,Y,Y,Y,Y,Y,Y,Y,Y,trivial⟩ (by repeat (first | with_reducible exact .z | refine .s Y ?_)) Y (by kernel_rfl)<|mE [] [] (by kernel_rfl) (by kernel_rfl) (by kernel_rfl) (by kernel_rfl) Y Y (.n) ?_
       intro ab11 l11 nx11
       refine sA Y Y<|nx11 (H'':=[.fz cPlace v58 ((([]:List Place)++r7.1)++r10.1),.fz cPlace v9 r7.1,.fz cPlace v12 r10.1,.own 55 cPlace v27 r25.1]) [(15,.fsl cPlace r50.1),(16,Ai .i64 r50.2),(66,.tup [.fsl cPlace r50.1,Ai .i64 r50.2]),(68,.sv v56),(69,.fsl cPlace r7.1),(70,.sv v57),(71,.fsl cPlace r10.1),(72,.fsl cPlace ((([]:List Place)++r7.1)++r10.1)),(73,.tup [.fsl cPlace r50.1,Ai .i64 r50.2]),(74,.fsl cPlace r50.1),(75,Ai .i64 r50.2)] [0,0,0,0] ⟨Y,Y,Y,Y,Y,Y,Y,Y,Y,Y,Y,trivial⟩ (by repeat (first | with_reducible exact .z | refine .s Y ?_)) Y (by kernel_rfl)<|mEnd [] (by kernel_rfl) (by kernel_rfl) (by kernel_rfl) (.n)<|m5 (join51 () ()) [1,1,1] ⟨Y,Y,Y,Y,Y,Y,Y,Y,Y,trivial⟩ Y
      ·refine mE [67,71] [0,1,2,4] (by kernel_rfl) (by kernel_rfl) (by kernel_rfl) (by kernel_rfl) Y Y (.c Y Y Y Y (.r (y7 g25 z25 Y (le_ Y) Y))<|.c Y Y Y Y (.r (fb (c:=cPlace) Try.underlying26 z55 y5))<|.c Y Y Y Y (.r (dMv Y))<|.c Y Y Y Y (.r (dMv Y)) .n) ?_
       intro ab3 l_3 nx3
       refine Wa 68 55 cPlace Y fun v59=>P9 1 Y<|Q9 69 1 Y Y<|sAp (j:=0) Try.underlying26 y5 Y Y Y Y h46 Y Y fun v60=>nx3 (H'':=[.own 55 cPlace v60 (([]:List Place)++r7.1),.fz cPlace v9 r7.1,.own 55 cPlace v12 r10.1,.own 55 cPlace v27 r25.1]) [(68,.sv v59),(69,.fsl cPlace r7.1),(70,.sv v60)] [0,0,0,0] ⟨Y,Y,Y,trivial⟩ (by repeat (first | with_reducible exact .z | refine .s Y ?_)) Y (by kernel_rfl)<|mE [67] [0,4] (by kernel_rfl) (by kernel_rfl) (by kernel_rfl) (by kernel_rfl) Y Y (.c Y Y Y Y (.r (y7 g25 z25 Y (le_ Y) Y))<|.c Y Y Y Y (.r (dMv Y)) .n) ?_
       intro ab5 l5 nx5
       refine P9 2 Y<|Q9 71 2 Y Y<|sAp (j:=0) Try.underlying26 y5 Y Y Y Y h48 Y Y fun v61=>nx5 (H'':=[.own 55 cPlace v61 ((([]:List Place)++r7.1)++r10.1),.fz cPlace v9 r7.1,.fz cPlace v12 r10.1,.own 55 cPlace v27 r25.1]) [(68,.sv v59),(69,.fsl cPlace r7.1),(70,.sv v60),(71,.fsl cPlace r10.1),(72,.sv v61)] [0,0,0,0] ⟨Y,Y,Y,Y,Y,trivial⟩ (by repeat (first | with_reducible exact .z | refine .s Y ?_)) Y (by kernel_rfl)<|mE [] [0] (by kernel_rfl) (by kernel_rfl) (by kernel_rfl) (by kernel_rfl) Y Y (.c Y Y Y Y (.r (y7 g25 z25 Y (le_ Y) Y)) .n) ?_
       intro ab6 l6 nx6
       refine P9 0 Y<|Q9 72 0 Y Y<|sQ (j5 ent11 (z6 K _ _) e51 (.s Y<|.s Y .nil)) Y<|nx6 (H'':=[.fz cPlace v61 ((([]:List Place)++r7.1)++r10.1),.fz cPlace v9 r7.1,.fz cPlace v12 r10.1,.own 55 cPlace v27 r25.1]) [(68,.sv v59),(69,.fsl cPlace r7.1),(70,.sv v60),(71,.fsl cPlace r10.1),(72,.fsl cPlace ((([]:List Place)++r7.1)++r10.1)),(73,.tup [.fsl cPlace r50.1,Ai .i64 r50.2])] [0,0,0,0] ⟨Y,Y,Y,Y,Y,Y,trivial⟩ (by repeat (first | with_reducible exact .z | refine .s Y ?_)) Y (by kernel_rfl)<|mE [] [] (by kernel_rfl) (by kernel_rfl) (by kernel_rfl) (by kernel_rfl) Y Y (.n) ?_
       intro ab7 l7 nx7
       refine sM Y Y<|nx7 (H'':=[.fz cPlace v61 ((([]:List Place)++r7.1)++r10.1),.fz cPlace v9 r7.1,.fz cPlace v12 r10.1,.own 55 cPlace v27 r25.1]) [(66,.tup [.fsl cPlace r50.1,Ai .i64 r50.2]),(68,.sv v59),(69,.fsl cPlace r7.1),(70,.sv v60),(71,.fsl cPlace r10.1),(72,.fsl cPlace ((([]:List Place)++r7.1)++r10.1)),(73,.tup [.fsl cPlace r50.1,Ai .i64 r50.2])] [0,0,0,0] ⟨Y,Y,Y,Y,Y,Y,Y,trivial⟩ (by repeat (first | with_reducible exact .z | refine .s Y ?_)) Y (by kernel_rfl)<|mE [] [] (by kernel_rfl) (by kernel_rfl) (by kernel_rfl) (by kernel_rfl) Y Y (.n) ?_
       intro ab9 l9 nx9
       refine sQ (dX Y Y) Y<|nx9 (H'':=[.fz cPlace v61 ((([]:List Place)++r7.1)++r10.1),.fz cPlace v9 r7.1,.fz cPlace v12 r10.1,.own 55 cPlace v27 r25.1]) [(66,.tup [.fsl cPlace r50.1,Ai .i64 r50.2]),(68,.sv v59),(69,.fsl cPlace r7.1),(70,.sv v60),(71,.fsl cPlace r10.1),(72,.fsl cPlace ((([]:List Place)++r7.1)++r10.1)),(73,.tup [.fsl cPlace r50.1,Ai .i64 r50.2]),(75,Ai .i64 r50.2)] [0,0,0,0] ⟨Y,Y,Y,Y,Y,Y,Y,Y,trivial⟩ (by repeat (first | with_reducible exact .z | refine .s Y ?_)) Y (by kernel_rfl)<|mE [] [] (by kernel_rfl) (by kernel_rfl) (by kernel_rfl) (by kernel_rfl) Y Y (.n) ?_
       intro ab8 l8 nx8
       refine sQ (dX Y Y) Y<|nx8 (H'':=[.fz cPlace v61 ((([]:List Place)++r7.1)++r10.1),.fz cPlace v9 r7.1,.fz cPlace v12 r10.1,.own 55 cPlace v27 r25.1]) [(66,.tup [.fsl cPlace r50.1,Ai .i64 r50.2]),(68,.sv v59),(69,.fsl cPlace r7.1),(70,.sv v60),(71,.fsl cPlace r10.1),(72,.fsl cPlace ((([]:List Place)++r7.1)++r10.1)),(73,.tup [.fsl cPlace r50.1,Ai .i64 r50.2]),(74,.fsl cPlace r50.1),(75,Ai .i64 r50.2)] [0,0,0,0] ⟨Y,Y,Y,Y,Y,Y,Y,Y,Y,trivial⟩ (by repeat (first | with_reducible exact .z | refine .s Y ?_)) Y (by kernel_rfl)<|mE [] [] (by kernel_rfl) (by kernel_rfl) (by kernel_rfl) (by kernel_rfl) Y Y (.n) ?_
       intro ab10 l10 nx10
       refine sA Y Y<|nx10 (H'':=[.fz cPlace v61 ((([]:List Place)++r7.1)++r10.1),.fz cPlace v9 r7.1,.fz cPlace v12 r10.1,.own 55 cPlace v27 r25.1]) [(15,.fsl cPlace r50.1),(66,.tup [.fsl cPlace r50.1,Ai .i64 r50.2]),(68,.sv v59),(69,.fsl cPlace r7.1),(70,.sv v60),(71,.fsl cPlace r10.1),(72,.fsl cPlace ((([]:List Place)++r7.1)++r10.1)),(73,.tup [.fsl cPlace r50.1,Ai .i64 r50.2]),(74,.fsl cPlace r50.1),(75,Ai .i64 r50.2)] [0,0,0,0] ⟨Y,Y,Y,Y,Y,Y,Y,Y,Y,Y,trivial⟩ (by repeat (first | with_reducible exact .z | refine .s Y ?_)) Y (by kernel_rfl)<|mE [] [] (by kernel_rfl) (by kernel_rfl) (by kernel_rfl) (by kernel_rfl) Y Y (.n) ?_
       intro ab11 l11 nx11
       refine sA Y Y<|nx11 (H'':=[.fz cPlace v61 ((([]:List Place)++r7.1)++r10.1),.fz cPlace v9 r7.1,.fz cPlace v12 r10.1,.own 55 cPlace v27 r25.1]) [(15,.fsl cPlace r50.1),(16,Ai .i64 r50.2),(66,.tup [.fsl cPlace r50.1,Ai .i64 r50.2]),(68,.sv v59),(69,.fsl cPlace r7.1),(70,.sv v60),(71,.fsl cPlace r10.1),(72,.fsl cPlace ((([]:List Place)++r7.1)++r10.1)),(73,.tup [.fsl cPlace r50.1,Ai .i64 r50.2]),(74,.fsl cPlace r50.1),(75,Ai .i64 r50.2)] [0,0,0,0] ⟨Y,Y,Y,Y,Y,Y,Y,Y,Y,Y,Y,trivial⟩ (by repeat (first | with_reducible exact .z | refine .s Y ?_)) Y (by kernel_rfl)<|mEnd [] (by kernel_rfl) (by kernel_rfl) (by kernel_rfl) (.n)<|m5 (join51 () ()) [1,1,1] ⟨Y,Y,Y,Y,Y,Y,Y,Y,Y,trivial⟩ Y
    ·intro join34
     refine qb [(0,57,.agg (cGrammar.e g1)),(1,58,.es),(2,59,.fsl cPlace ps2),(4,61,.fsl cPlace qs3)] [3,5,6,7,8,9,10,11] [[3,5,6,7,8,9,10,11],[3,5,6,7,8,10,9,11],[3,5,6,7,9,8,10,11]] mixed (by kernel_rfl) (by kernel_rfl) (by kernel_rfl) (by kernel_rfl) ⟨?_,?_,?_,trivial⟩
     ·refine mE [57,61] [0,1,2,4] (by kernel_rfl) (by kernel_rfl) (by kernel_rfl) (by kernel_rfl) Y Y (.c Y Y Y Y (.r (y7 g25 z25 Y (le_ Y) Y))<|.c Y Y Y Y (.r (fb (c:=cPlace) Try.underlying26 z55 y5))<|.c Y Y Y Y (.r (dMv Y))<|.c Y Y Y Y (.r (dMv Y)) .n) ?_
      intro ab3 l_3 nx3
      refine Wa 58 55 cPlace Y fun v36=>sAp (j:=0) Try.underlying26 y5 Y Y Y Y h29 Y Y fun v37=>nx3 (H'':=[.own 55 cPlace v37 (([]:List Place)++ps2),.own 55 cPlace v27 r25.1,.own 55 cPlace v12 r10.1,.own 55 cPlace v9 r7.1]) [(58,.sv v36),(60,.sv v37)] [0,0,0,0] ⟨Y,Y,trivial⟩ (by repeat (first | with_reducible exact .z | refine .s Y ?_)) Y (by kernel_rfl)<|mE [57] [0,4] (by kernel_rfl) (by kernel_rfl) (by kernel_rfl) (by kernel_rfl) Y Y (.c Y Y Y Y (.r (y7 g25 z25 Y (le_ Y) Y))<|.c Y Y Y Y (.r (dMv Y)) .n) ?_
      intro ab5 l5 nx5
      refine sAp (j:=0) Try.underlying26 y5 Y Y Y Y h31 Y Y fun v38=>nx5 (H'':=[.own 55 cPlace v38 ((([]:List Place)++ps2)++qs3),.own 55 cPlace v27 r25.1,.own 55 cPlace v12 r10.1,.own 55 cPlace v9 r7.1]) [(58,.sv v36),(60,.sv v37),(62,.sv v38)] [0,0,0,0] ⟨Y,Y,Y,trivial⟩ (by repeat (first | with_reducible exact .z | refine .s Y ?_)) Y (by kernel_rfl)<|mE [] [0] (by kernel_rfl) (by kernel_rfl) (by kernel_rfl) (by kernel_rfl) Y Y (.c Y Y Y Y (.r (y7 g25 z25 Y (le_ Y) Y)) .n) ?_
      intro ab6 l6 nx6
      refine P9 0 Y<|Q9 62 0 Y Y<|sQ (j5 ent11 (z6 K _ _) e34 (.s Y<|.s Y .nil)) Y<|nx6 (H'':=[.fz cPlace v38 ((([]:List Place)++ps2)++qs3),.own 55 cPlace v27 r25.1,.own 55 cPlace v12 r10.1,.own 55 cPlace v9 r7.1]) [(58,.sv v36),(60,.sv v37),(62,.fsl cPlace ((([]:List Place)++ps2)++qs3)),(63,.tup [.fsl cPlace r33.1,Ai .i64 r33.2])] [0,0,0,0] ⟨Y,Y,Y,Y,trivial⟩ (by repeat (first | with_reducible exact .z | refine .s Y ?_)) Y (by kernel_rfl)<|mE [] [] (by kernel_rfl) (by kernel_rfl) (by kernel_rfl) (by kernel_rfl) Y Y (.n) ?_
      intro ab7 l7 nx7
      refine sM Y Y<|nx7 (H'':=[.fz cPlace v38 ((([]:List Place)++ps2)++qs3),.own 55 cPlace v27 r25.1,.own 55 cPlace v12 r10.1,.own 55 cPlace v9 r7.1]) [(56,.tup [.fsl cPlace r33.1,Ai .i64 r33.2]),(58,.sv v36),(60,.sv v37),(62,.fsl cPlace ((([]:List Place)++ps2)++qs3)),(63,.tup [.fsl cPlace r33.1,Ai .i64 r33.2])] [0,0,0,0] ⟨Y,Y,Y,Y,Y,trivial⟩ (by repeat (first | with_reducible exact .z | refine .s Y ?_)) Y (by kernel_rfl)<|mE [] [] (by kernel_rfl) (by kernel_rfl) (by kernel_rfl) (by kernel_rfl) Y Y (.n) ?_
      intro ab8 l8 nx8
      refine sQ (dX Y Y) Y<|nx8 (H'':=[.fz cPlace v38 ((([]:List Place)++ps2)++qs3),.own 55 cPlace v27 r25.1,.own 55 cPlace v12 r10.1,.own 55 cPlace v9 r7.1]) [(56,.tup [.fsl cPlace r33.1,Ai .i64 r33.2]),(58,.sv v36),(60,.sv v37),(62,.fsl cPlace ((([]:List Place)++ps2)++qs3)),(63,.tup [.fsl cPlace r33.1,Ai .i64 r33.2]),(64,.fsl cPlace r33.1)] [0,0,0,0] ⟨Y,Y,Y,Y,Y,Y,trivial⟩ (by repeat (first | with_reducible exact .z | refine .s Y ?_)) Y (by kernel_rfl)<|mE [] [] (by kernel_rfl) (by kernel_rfl) (by kernel_rfl) (by kernel_rfl) Y Y (.n) ?_
      intro ab9 l9 nx9
      refine sQ (dX Y Y) Y<|nx9 (H'':=[.fz cPlace v38 ((([]:List Place)++ps2)++qs3),.own 55 cPlace v27 r25.1,.own 55 cPlace v12 r10.1,.own 55 cPlace v9 r7.1]) [(56,.tup [.fsl cPlace r33.1,Ai .i64 r33.2]),(58,.sv v36),(60,.sv v37),(62,.fsl cPlace ((([]:List Place)++ps2)++qs3)),(63,.tup [.fsl cPlace r33.1,Ai .i64 r33.2]),(64,.fsl cPlace r33.1),(65,Ai .i64 r33.2)] [0,0,0,0] ⟨Y,Y,Y,Y,Y,Y,Y,trivial⟩ (by repeat (first | with_reducible exact .z | refine .s Y ?_)) Y (by kernel_rfl)<|mE [] [] (by kernel_rfl) (by kernel_rfl) (by kernel_rfl) (by kernel_rfl) Y Y (.n) ?_
      intro ab10 l10 nx10
      refine sA Y Y<|nx10 (H'':=[.fz cPlace v38 ((([]:List Place)++ps2)++qs3),.own 55 cPlace v27 r25.1,.own 55 cPlace v12 r10.1,.own 55 cPlace v9 r7.1]) [(13,.fsl cPlace r33.1),(56,.tup [.fsl cPlace r33.1,Ai .i64 r33.2]),(58,.sv v36),(60,.sv v37),(62,.fsl cPlace ((([]:List Place)++ps2)++qs3)),(63,.tup [.fsl cPlace r33.1,Ai .i64 r33.2]),(64,.fsl cPlace r33.1),(65,Ai .i64 r33.2)] [0,0,0,0] ⟨Y,Y,Y,Y,Y,Y,Y,Y,trivial⟩ (by repeat (first | with_reducible exact .z | refine .s Y ?_)) Y (by kernel_rfl)<|mE [] [] (by kernel_rfl) (by kernel_rfl) (by kernel_rfl) (by kernel_rfl) Y Y (.n) ?_
      intro ab11 l11 nx11
      refine sA Y Y<|nx11 (H'':=[.fz cPlace v38 ((([]:List Place)++ps2)++qs3),.own 55 cPlace v27 r25.1,.own 55 cPlace v12 r10.1,.own 55 cPlace v9 r7.1]) [(13,.fsl cPlace r33.1),(14,Ai .i64 r33.2),(56,.tup [.fsl cPlace r33.1,Ai .i64 r33.2]),(58,.sv v36),(60,.sv v37),(62,.fsl cPlace ((([]:List Place)++ps2)++qs3)),(63,.tup [.fsl cPlace r33.1,Ai .i64 r33.2]),(64,.fsl cPlace r33.1),(65,Ai .i64 r33.2)] [0,0,0,0] ⟨Y,Y,Y,Y,Y,Y,Y,Y,Y,trivial⟩ (by repeat (first | with_reducible exact .z | refine .s Y ?_)) Y (by kernel_rfl)<|mEnd [] (by kernel_rfl) (by kernel_rfl) (by kernel_rfl) (.n)<|m5 (join34 () ()) [3,2,1] ⟨Y,Y,Y,Y,Y,Y,Y,Y,trivial⟩ Y
     ·refine mE [57,61] [0,1,2,4] (by kernel_rfl) (by kernel_rfl) (by kernel_rfl) (by kernel_rfl) Y Y (.c Y Y Y Y (.r (y7 g25 z25 Y (le_ Y) Y))<|.c Y Y Y Y (.r (fb (c:=cPlace) Try.underlying26 z55 y5))<|.c Y Y Y Y (.r (dMv Y))<|.c Y Y Y Y (.r (dMv Y)) .n) ?_
      intro ab3 l_3 nx3
      refine Wa 58 55 cPlace Y fun v39=>sAp (j:=0) Try.underlying26 y5 Y Y Y Y h29 Y Y fun v40=>nx3 (H'':=[.own 55 cPlace v40 (([]:List Place)++ps2),.own 55 cPlace v27 r25.1,.own 55 cPlace v12 r10.1,.own 55 cPlace v9 r7.1]) [(58,.sv v39),(60,.sv v40)] [0,0,0,0] ⟨Y,Y,trivial⟩ (by repeat (first | with_reducible exact .z | refine .s Y ?_)) Y (by kernel_rfl)<|mE [57] [0,4] (by kernel_rfl) (by kernel_rfl) (by kernel_rfl) (by kernel_rfl) Y Y (.c Y Y Y Y (.r (y7 g25 z25 Y (le_ Y) Y))<|.c Y Y Y Y (.r (dMv Y)) .n) ?_
      intro ab5 l5 nx5
      refine sAp (j:=0) Try.underlying26 y5 Y Y Y Y h31 Y Y fun v41=>nx5 (H'':=[.own 55 cPlace v41 ((([]:List Place)++ps2)++qs3),.own 55 cPlace v27 r25.1,.own 55 cPlace v12 r10.1,.own 55 cPlace v9 r7.1]) [(58,.sv v39),(60,.sv v40),(62,.sv v41)] [0,0,0,0] ⟨Y,Y,Y,trivial⟩ (by repeat (first | with_reducible exact .z | refine .s Y ?_)) Y (by kernel_rfl)<|mE [] [0] (by kernel_rfl) (by kernel_rfl) (by kernel_rfl) (by kernel_rfl) Y Y (.c Y Y Y Y (.r (y7 g25 z25 Y (le_ Y) Y)) .n) ?_
      intro ab6 l6 nx6
      refine P9 0 Y<|Q9 62 0 Y Y<|sQ (j5 ent11 (z6 K _ _) e34 (.s Y<|.s Y .nil)) Y<|nx6 (H'':=[.fz cPlace v41 ((([]:List Place)++ps2)++qs3),.own 55 cPlace v27 r25.1,.own 55 cPlace v12 r10.1,.own 55 cPlace v9 r7.1]) [(58,.sv v39),(60,.sv v40),(62,.fsl cPlace ((([]:List Place)++ps2)++qs3)),(63,.tup [.fsl cPlace r33.1,Ai .i64 r33.2])] [0,0,0,0] ⟨Y,Y,Y,Y,trivial⟩ (by repeat (first | with_reducible exact .z | refine .s Y ?_)) Y (by kernel_rfl)<|mE [] [] (by kernel_rfl) (by kernel_rfl) (by kernel_rfl) (by kernel_rfl) Y Y (.n) ?_
      intro ab7 l7 nx7
      refine sM Y Y<|nx7 (H'':=[.fz cPlace v41 ((([]:List Place)++ps2)++qs3),.own 55 cPlace v27 r25.1,.own 55 cPlace v12 r10.1,.own 55 cPlace v9 r7.1]) [(56,.tup [.fsl cPlace r33.1,Ai .i64 r33.2]),(58,.sv v39),(60,.sv v40),(62,.fsl cPlace ((([]:List Place)++ps2)++qs3)),(63,.tup [.fsl cPlace r33.1,Ai .i64 r33.2])] [0,0,0,0] ⟨Y,Y,Y,Y,Y,trivial⟩ (by repeat (first | with_reducible exact .z | refine .s Y ?_)) Y (by kernel_rfl)<|mE [] [] (by kernel_rfl) (by kernel_rfl) (by kernel_rfl) (by kernel_rfl) Y Y (.n) ?_
      intro ab8 l8 nx8
      refine sQ (dX Y Y) Y<|nx8 (H'':=[.fz cPlace v41 ((([]:List Place)++ps2)++qs3),.own 55 cPlace v27 r25.1,.own 55 cPlace v12 r10.1,.own 55 cPlace v9 r7.1]) [(56,.tup [.fsl cPlace r33.1,Ai .i64 r33.2]),(58,.sv v39),(60,.sv v40),(62,.fsl cPlace ((([]:List Place)++ps2)++qs3)),(63,.tup [.fsl cPlace r33.1,Ai .i64 r33.2]),(64,.fsl cPlace r33.1)] [0,0,0,0] ⟨Y,Y,Y,Y,Y,Y,trivial⟩ (by repeat (first | with_reducible exact .z | refine .s Y ?_)) Y (by kernel_rfl)<|mE [] [] (by kernel_rfl) (by kernel_rfl) (by kernel_rfl) (by kernel_rfl) Y Y (.n) ?_
      intro ab10 l10 nx10
      refine sA Y Y<|nx10 (H'':=[.fz cPlace v41 ((([]:List Place)++ps2)++qs3),.own 55 cPlace v27 r25.1,.own 55 cPlace v12 r10.1,.own 55 cPlace v9 r7.1]) [(13,.fsl cPlace r33.1),(56,.tup [.fsl cPlace r33.1,Ai .i64 r33.2]),(58,.sv v39),(60,.sv v40),(62,.fsl cPlace ((([]:List Place)++ps2)++qs3)),(63,.tup [.fsl cPlace r33.1,Ai .i64 r33.2]),(64,.fsl cPlace r33.1)] [0,0,0,0] ⟨Y,Y,Y,Y,Y,Y,Y,trivial⟩ (by repeat (first | with_reducible exact .z | refine .s Y ?_)) Y (by kernel_rfl)<|mE [] [] (by kernel_rfl) (by kernel_rfl) (by kernel_rfl) (by kernel_rfl) Y Y (.n) ?_
      intro ab9 l9 nx9
      refine sQ (dX Y Y) Y<|nx9 (H'':=[.fz cPlace v41 ((([]:List Place)++ps2)++qs3),.own 55 cPlace v27 r25.1,.own 55 cPlace v12 r10.1,.own 55 cPlace v9 r7.1]) [(13,.fsl cPlace r33.1),(56,.tup [.fsl cPlace r33.1,Ai .i64 r33.2]),(58,.sv v39),(60,.sv v40),(62,.fsl cPlace ((([]:List Place)++ps2)++qs3)),(63,.tup [.fsl cPlace r33.1,Ai .i64 r33.2]),(64,.fsl cPlace r33.1),(65,Ai .i64 r33.2)] [0,0,0,0] ⟨Y,Y,Y,Y,Y,Y,Y,Y,trivial⟩ (by repeat (first | with_reducible exact .z | refine .s Y ?_)) Y (by kernel_rfl)<|mE [] [] (by kernel_rfl) (by kernel_rfl) (by kernel_rfl) (by kernel_rfl) Y Y (.n) ?_
      intro ab11 l11 nx11
      refine sA Y Y<|nx11 (H'':=[.fz cPlace v41 ((([]:List Place)++ps2)++qs3),.own 55 cPlace v27 r25.1,.own 55 cPlace v12 r10.1,.own 55 cPlace v9 r7.1]) [(13,.fsl cPlace r33.1),(14,Ai .i64 r33.2),(56,.tup [.fsl cPlace r33.1,Ai .i64 r33.2]),(58,.sv v39),(60,.sv v40),(62,.fsl cPlace ((([]:List Place)++ps2)++qs3)),(63,.tup [.fsl cPlace r33.1,Ai .i64 r33.2]),(64,.fsl cPlace r33.1),(65,Ai .i64 r33.2)] [0,0,0,0] ⟨Y,Y,Y,Y,Y,Y,Y,Y,Y,trivial⟩ (by repeat (first | with_reducible exact .z | refine .s Y ?_)) Y (by kernel_rfl)<|mEnd [] (by kernel_rfl) (by kernel_rfl) (by kernel_rfl) (.n)<|m5 (join34 () ()) [3,2,1] ⟨Y,Y,Y,Y,Y,Y,Y,Y,trivial⟩ Y
     ·refine mE [57,61] [0,1,2,4] (by kernel_rfl) (by kernel_rfl) (by kernel_rfl) (by kernel_rfl) Y Y (.c Y Y Y Y (.r (y7 g25 z25 Y (le_ Y) Y))<|.c Y Y Y Y (.r (fb (c:=cPlace) Try.underlying26 z55 y5))<|.c Y Y Y Y (.r (dMv Y))<|.c Y Y Y Y (.r (dMv Y)) .n) ?_
      intro ab3 l_3 nx3
      refine Wa 58 55 cPlace Y fun v42=>sAp (j:=0) Try.underlying26 y5 Y Y Y Y h29 Y Y fun v43=>nx3 (H'':=[.own 55 cPlace v43 (([]:List Place)++ps2),.own 55 cPlace v27 r25.1,.own 55 cPlace v12 r10.1,.own 55 cPlace v9 r7.1]) [(58,.sv v42),(60,.sv v43)] [0,0,0,0] ⟨Y,Y,trivial⟩ (by repeat (first | with_reducible exact .z | refine .s Y ?_)) Y (by kernel_rfl)<|mE [57] [0,4] (by kernel_rfl) (by kernel_rfl) (by kernel_rfl) (by kernel_rfl) Y Y (.c Y Y Y Y (.r (y7 g25 z25 Y (le_ Y) Y))<|.c Y Y Y Y (.r (dMv Y)) .n) ?_
      intro ab5 l5 nx5
      refine sAp (j:=0) Try.underlying26 y5 Y Y Y Y h31 Y Y fun v44=>nx5 (H'':=[.own 55 cPlace v44 ((([]:List Place)++ps2)++qs3),.own 55 cPlace v27 r25.1,.own 55 cPlace v12 r10.1,.own 55 cPlace v9 r7.1]) [(58,.sv v42),(60,.sv v43),(62,.sv v44)] [0,0,0,0] ⟨Y,Y,Y,trivial⟩ (by repeat (first | with_reducible exact .z | refine .s Y ?_)) Y (by kernel_rfl)<|mE [] [0] (by kernel_rfl) (by kernel_rfl) (by kernel_rfl) (by kernel_rfl) Y Y (.c Y Y Y Y (.r (y7 g25 z25 Y (le_ Y) Y)) .n) ?_
      intro ab6 l6 nx6
      refine P9 0 Y<|Q9 62 0 Y Y<|sQ (j5 ent11 (z6 K _ _) e34 (.s Y<|.s Y .nil)) Y<|nx6 (H'':=[.fz cPlace v44 ((([]:List Place)++ps2)++qs3),.own 55 cPlace v27 r25.1,.own 55 cPlace v12 r10.1,.own 55 cPlace v9 r7.1]) [(58,.sv v42),(60,.sv v43),(62,.fsl cPlace ((([]:List Place)++ps2)++qs3)),(63,.tup [.fsl cPlace r33.1,Ai .i64 r33.2])] [0,0,0,0] ⟨Y,Y,Y,Y,trivial⟩ (by repeat (first | with_reducible exact .z | refine .s Y ?_)) Y (by kernel_rfl)<|mE [] [] (by kernel_rfl) (by kernel_rfl) (by kernel_rfl) (by kernel_rfl) Y Y (.n) ?_
      intro ab7 l7 nx7
      refine sM Y Y<|nx7 (H'':=[.fz cPlace v44 ((([]:List Place)++ps2)++qs3),.own 55 cPlace v27 r25.1,.own 55 cPlace v12 r10.1,.own 55 cPlace v9 r7.1]) [(56,.tup [.fsl cPlace r33.1,Ai .i64 r33.2]),(58,.sv v42),(60,.sv v43),(62,.fsl cPlace ((([]:List Place)++ps2)++qs3)),(63,.tup [.fsl cPlace r33.1,Ai .i64 r33.2])] [0,0,0,0] ⟨Y,Y,Y,Y,Y,trivial⟩ (by repeat (first | with_reducible exact .z | refine .s Y ?_)) Y (by kernel_rfl)<|mE [] [] (by kernel_rfl) (by kernel_rfl) (by kernel_rfl) (by kernel_rfl) Y Y (.n) ?_
      intro ab9 l9 nx9
      refine sQ (dX Y Y) Y<|nx9 (H'':=[.fz cPlace v44 ((([]:List Place)++ps2)++qs3),.own 55 cPlace v27 r25.1,.own 55 cPlace v12 r10.1,.own 55 cPlace v9 r7.1]) [(56,.tup [.fsl cPlace r33.1,Ai .i64 r33.2]),(58,.sv v42),(60,.sv v43),(62,.fsl cPlace ((([]:List Place)++ps2)++qs3)),(63,.tup [.fsl cPlace r33.1,Ai .i64 r33.2]),(65,Ai .i64 r33.2)] [0,0,0,0] ⟨Y,Y,Y,Y,Y,Y,trivial⟩ (by repeat (first | with_reducible exact .z | refine .s Y ?_)) Y (by kernel_rfl)<|mE [] [] (by kernel_rfl) (by kernel_rfl) (by kernel_rfl) (by kernel_rfl) Y Y (.n) ?_
      intro ab8 l8 nx8
      refine sQ (dX Y Y) Y<|nx8 (H'':=[.fz cPlace v44 ((([]:List Place)++ps2)++qs3),.own 55 cPlace v27 r25.1,.own 55 cPlace v12 r10.1,.own 55 cPlace v9 r7.1]) [(56,.tup [.fsl cPlace r33.1,Ai .i64 r33.2]),(58,.sv v42),(60,.sv v43),(62,.fsl cPlace ((([]:List Place)++ps2)++qs3)),(63,.tup [.fsl cPlace r33.1,Ai .i64 r33.2]),(64,.fsl cPlace r33.1),(65,Ai .i64 r33.2)] [0,0,0,0] ⟨Y,Y,Y,Y,Y,Y,Y,trivial⟩ (by repeat (first | with_reducible exact .z | refine .s Y ?_)) Y (by kernel_rfl)<|mE [] [] (by kernel_rfl) (by kernel_rfl) (by kernel_rfl) (by kernel_rfl) Y Y (.n) ?_
      intro ab10 l10 nx10
      refine sA Y Y<|nx10 (H'':=[.fz cPlace v44 ((([]:List Place)++ps2)++qs3),.own 55 cPlace v27 r25.1,.own 55 cPlace v12 r10.1,.own 55 cPlace v9 r7.1]) [(13,.fsl cPlace r33.1),(56,.tup [.fsl cPlace r33.1,Ai .i64 r33.2]),(58,.sv v42),(60,.sv v43),(62,.fsl cPlace ((([]:List Place)++ps2)++qs3)),(63,.tup [.fsl cPlace r33.1,Ai .i64 r33.2]),(64,.fsl cPlace r33.1),(65,Ai .i64 r33.2)] [0,0,0,0] ⟨Y,Y,Y,Y,Y,Y,Y,Y,trivial⟩ (by repeat (first | with_reducible exact .z | refine .s Y ?_)) Y (by kernel_rfl)<|mE [] [] (by kernel_rfl) (by kernel_rfl) (by kernel_rfl) (by kernel_rfl) Y Y (.n) ?_
      intro ab11 l11 nx11
      refine sA Y Y<|nx11 (H'':=[.fz cPlace v44 ((([]:List Place)++ps2)++qs3),.own 55 cPlace v27 r25.1,.own 55 cPlace v12 r10.1,.own 55 cPlace v9 r7.1]) [(13,.fsl cPlace r33.1),(14,Ai .i64 r33.2),(56,.tup [.fsl cPlace r33.1,Ai .i64 r33.2]),(58,.sv v42),(60,.sv v43),(62,.fsl cPlace ((([]:List Place)++ps2)++qs3)),(63,.tup [.fsl cPlace r33.1,Ai .i64 r33.2]),(64,.fsl cPlace r33.1),(65,Ai .i64 r33.2)] [0,0,0,0] ⟨Y,Y,Y,Y,Y,Y,Y,Y,Y,trivial⟩ (by repeat (first | with_reducible exact .z | refine .s Y ?_)) Y (by kernel_rfl)<|mEnd [] (by kernel_rfl) (by kernel_rfl) (by kernel_rfl) (.n)<|m5 (join34 () ()) [3,2,1] ⟨Y,Y,Y,Y,Y,Y,Y,Y,trivial⟩ Y
def W1.l2 (K:Nat) (many1:Int) (r27:(Automaton×Int)):Nat→Int→Option (Int ⊕ Bool)
 | 0,_=>none
 | m+1,i42=>if i42≤(iand .i64 many1 31) then if 0≤i42 then if i42<(r27.1.States.length:Int) then (G0 K (rd r27.1.States i42) ([(⟨(0:Int),(0:Int),i42⟩:Place)]:List Place)).bind fun r46=>if (!r46)=true then some (.inr false) else W1.l2 K many1 r27 m (IntKind.wrap .i64 (i42+1)) else none else none else some (.inl i42)
def W1.l1 (K:Nat) (many1:Int) (xs9:(List Conjunct)) (r27:(Automaton×Int)):Nat→Int→Option (Int ⊕ Bool)
 | 0,_=>none
 | m+1,i35=>if i35<(iand .i64 many1 31) then if 0≤i35 then if i35<(r27.1.Moves.length:Int) then if 0<(xs9.length:Int) then if i35<(((rd xs9 0).Seq).length:Int) then if (rd r27.1.Moves i35)≠(⟨i35,⟨(rd ((rd xs9 0).Seq) i35).Name,(rd ((rd xs9 0).Seq) i35).Lo,(rd ((rd xs9 0).Seq) i35).Hi⟩,IntKind.wrap .i64 (i35+1)⟩:Move) then some (.inr false) else W1.l1 K many1 xs9 r27 m (IntKind.wrap .i64 (i35+1)) else none else none else none else none else some (.inl i35)
def W1.l0 (K:Nat) (many1:Int):Nat→((List Conjunct)×Int)→Option ((List Conjunct)×Int)
 | 0,_=>none
 | m+1,(xs9,i10)=>if i10<(iand .i64 many1 31) then if 0<(xs9.length:Int) then if (((rd xs9 0).Seq).length+([(⟨(-1),97,IntKind.wrap .i64 (97+(iand .i64 i10 1))⟩:Symbol)]:List Symbol).length)*24≤140737488355328 then W1.l0 K many1 m (xs9.set (0:Int).toNat (⟨(rd xs9 0).Neg,((rd xs9 0).Seq)++([(⟨(-1),97,IntKind.wrap .i64 (97+(iand .i64 i10 1))⟩:Symbol)]:List Symbol)⟩:Conjunct),IntKind.wrap .i64 (i10+1)) else none else none else some (xs9,i10)
def W1 (K:Nat) (many1:Int) (more2:Bool):Option Bool:=(k4 K).bind fun r3=>if (!r3)=true then some false else (W1.l0 K many1 K (([(⟨false,([]:List Symbol)⟩:Conjunct)]:List Conjunct),0)).bind fun (xs9,i10)=>(if more2=true then if (([(⟨(0:Int),xs9⟩:Rule)]:List Rule).length+([(⟨(0:Int),([(⟨true,([]:(List Symbol))⟩:Conjunct)]:List Conjunct)⟩:Rule)]:List Rule).length)*32≤140737488355328 then some (([(⟨(0:Int),xs9⟩:Rule)]:List Rule)++([(⟨(0:Int),([(⟨true,([]:(List Symbol))⟩:Conjunct)]:List Conjunct)⟩:Rule)]:List Rule)) else none else some ([(⟨(0:Int),xs9⟩:Rule)]:List Rule)).bind fun xs22=>(W3 K (⟨(0:Int),([(⟨#[83]⟩:ByteArray)]:List ByteArray),xs22⟩:Grammar)).bind fun r27=>(V1 K r27.2).bind fun r30=>if r30≠0 then some false else if (r27.1.States.length:Int)≠(IntKind.wrap .i64 ((iand .i64 many1 31)+1)) then some false else if (r27.1.Moves.length:Int)≠(iand .i64 many1 31) then some false else brk (W1.l1 K many1 xs9 r27 K 0) fun i35=>brk (W1.l2 K many1 r27 K 1) fun i42=>some true
def J3.l2 (K:Nat) (g1:Grammar) (b3:Int) (neg4:Bool) (i5:Int) (j9:Int):Nat→Int→Option (Int ⊕ (Int ⊕ (Int ⊕ Bool)))
 | 0,_=>none
 | m+1,k13=>if k13<(((rd ((rd g1.Rules i5).Conj) j9).Seq).length:Int) then if ((rd ((rd g1.Rules i5).Conj) j9).Neg)=neg4 then if 0≤k13 then if ((rd ((rd ((rd g1.Rules i5).Conj) j9).Seq) k13).Name)=b3 then some (.inr (.inr (.inr true))) else J3.l2 K g1 b3 neg4 i5 j9 m (IntKind.wrap .i64 (k13+1)) else none else some (.inl k13) else some (.inl k13)
def J3.l1 (K:Nat) (g1:Grammar) (b3:Int) (neg4:Bool) (i5:Int):Nat→Int→Option (Int ⊕ (Int ⊕ Bool))
 | 0,_=>none
 | m+1,j9=>if j9<(((rd g1.Rules i5).Conj).length:Int) then if 0≤j9 then brk (J3.l2 K g1 b3 neg4 i5 j9 K 0) fun k13=>J3.l1 K g1 b3 neg4 i5 m (IntKind.wrap .i64 (j9+1)) else none else some (.inl j9)
def J3.l0 (K:Nat) (g1:Grammar) (a2:Int) (b3:Int) (neg4:Bool):Nat→Int→Option (Int ⊕ Bool)
 | 0,_=>none
 | m+1,i5=>if i5<(g1.Rules.length:Int) then if 0≤i5 then if ((rd g1.Rules i5).Head)≠a2 then J3.l0 K g1 a2 b3 neg4 m (IntKind.wrap .i64 (i5+1)) else brk (J3.l1 K g1 b3 neg4 i5 K 0) fun j9=>J3.l0 K g1 a2 b3 neg4 m (IntKind.wrap .i64 (i5+1)) else none else some (.inl i5)
def J3 (K:Nat) (g1:Grammar) (a2:Int) (b3:Int) (neg4:Bool):Option Bool:=brk (J3.l0 K g1 a2 b3 neg4 K 0) fun i5=>some false
def M3.l2 (K:Nat) (g1:Grammar) (a9:Int) (b13:Int):Nat→((List Edge)×Int)→Option ((List Edge)×Int)
 | 0,_=>none
 | m+1,(xs16,k17)=>if k17<2 then (J3 K g1 a9 b13 (decide (k17=1))).bind fun r19=>if r19=true then if (xs16.length+([(⟨a9,b13,decide (k17=1)⟩:Edge)]:List Edge).length)*24≤140737488355328 then M3.l2 K g1 a9 b13 m (xs16++([(⟨a9,b13,decide (k17=1)⟩:Edge)]:List Edge),IntKind.wrap .i64 (k17+1)) else none else M3.l2 K g1 a9 b13 m (xs16,IntKind.wrap .i64 (k17+1)) else some (xs16,k17)
def M3.l1 (K:Nat) (g1:Grammar) (a9:Int):Nat→((List Edge)×Int)→Option ((List Edge)×Int)
 | 0,_=>none
 | m+1,(xs12,b13)=>if b13<(g1.Names.length:Int) then (M3.l2 K g1 a9 b13 K (xs12,0)).bind fun (xs16,k17)=>M3.l1 K g1 a9 m (xs16,IntKind.wrap .i64 (b13+1)) else some (xs12,b13)
def M3.l0 (K:Nat) (g1:Grammar):Nat→((List Edge)×Int)→Option ((List Edge)×Int)
 | 0,_=>none
 | m+1,(xs8,a9)=>if a9<(g1.Names.length:Int) then (M3.l1 K g1 a9 K (xs8,0)).bind fun (xs12,b13)=>M3.l0 K g1 m (xs12,IntKind.wrap .i64 (a9+1)) else some (xs8,a9)
def M3 (K:Nat) (g1:Grammar):Option ((List Edge)×Int):=(L0 K g1).bind fun r2=>if (!r2)=true then some (([]:List Edge),600) else (M3.l0 K g1 K (([]:List Edge),0)).bind fun (xs8,a9)=>some (xs8,0)
def w6.l0 (K:Nat) (names1:Int) (es2:(List Edge)):Nat→Int→Option (Int ⊕ Bool)
 | 0,_=>none
 | m+1,i3=>if i3<(es2.length:Int) then if 0≤i3 then if ((rd es2 i3).From)<0 then some (.inr false) else if names1≤((rd es2 i3).From) then some (.inr false) else if ((rd es2 i3).To)<0 then some (.inr false) else if names1≤((rd es2 i3).To) then some (.inr false) else w6.l0 K names1 es2 m (IntKind.wrap .i64 (i3+1)) else none else some (.inl i3)
def w6 (K:Nat) (names1:Int) (es2:(List Edge)):Option Bool:=brk (w6.l0 K names1 es2 K 0) fun i3=>if 0≤names1 then some (decide (names1≤64)) else some false
def f4.l1 (K:Nat) (es2:(List Edge)):Nat→((List Bool)×Int)→Option ((List Bool)×Int)
 | 0,_=>none
 | m+1,(xs12,i13)=>if i13<(es2.length:Int) then if 0≤i13 then if 0≤(rd es2 i13).From then if (rd es2 i13).From<(xs12.length:Int) then if (rd xs12 ((rd es2 i13).From))=true then if 0≤(rd es2 i13).To then if (rd es2 i13).To<(xs12.length:Int) then f4.l1 K es2 m (xs12.set ((rd es2 i13).To).toNat true,IntKind.wrap .i64 (i13+1)) else none else none else f4.l1 K es2 m (xs12,IntKind.wrap .i64 (i13+1)) else none else none else none else some (xs12,i13)
def f4.l0 (K:Nat) (names1:Int) (es2:(List Edge)):Nat→((List Bool)×Int)→Option ((List Bool)×Int)
 | 0,_=>none
 | m+1,(xs9,r10)=>if r10<names1 then (f4.l1 K es2 K (xs9,0)).bind fun (xs12,i13)=>f4.l0 K names1 es2 m (xs12,IntKind.wrap .i64 (r10+1)) else some (xs9,r10)
def f4 (K:Nat) (names1:Int) (es2:(List Edge)) (from3:Int):Option (List Bool):=if 0≤names1 then if (1:Int)*names1≤281474976710656 then if 0≤from3 then if from3<((List.replicate names1.toNat false).length:Int) then (f4.l0 K names1 es2 K ((List.replicate names1.toNat false).set from3.toNat true,0)).bind fun (xs9,r10)=>some xs9 else none else none else none else none
def f9 (K:Nat) (names1:Int) (es2:(List Edge)) (from3:Int) (to4:Int):Option Bool:=(w6 K names1 es2).bind fun r5=>if (!r5)=true then some false else if from3<0 then some false else if names1≤from3 then some false else if to4<0 then some false else if names1≤to4 then some false else (f4 K names1 es2 from3).bind fun r12=>if to4<(r12.length:Int) then some (rd r12 to4) else none
def m9 (K:Nat) (g1:Grammar) (name2:Int):Option Bool:=(M3 K g1).bind fun r3=>(f9 K (g1.Names.length:Int) r3.1 g1.Start name2).bind fun r6=>some r6
def M0.l3 (K:Nat) (r5:(Automaton×Int)) (i24:Int):Nat→Int→Option (Int ⊕ (Int ⊕ Bool))
 | 0,_=>none
 | m+1,j46=>if j46<i24 then if 0≤i24 then if 0≤j46 then if j46<(r5.1.States.length:Int) then (G0 K (rd r5.1.States i24) (rd r5.1.States j46)).bind fun r51=>if r51=true then some (.inr (.inr false)) else M0.l3 K r5 i24 m (IntKind.wrap .i64 (j46+1)) else none else none else none else some (.inl j46)
def M0.l2 (K:Nat) (r5:(Automaton×Int)) (i24:Int):Nat→Int→Option (Int ⊕ (Int ⊕ Bool))
 | 0,_=>none
 | m+1,j26=>if 0≤i24 then if j26<((rd r5.1.States i24).length:Int) then if 0≤IntKind.wrap .i64 (j26-1) then if IntKind.wrap .i64 (j26-1)<((rd r5.1.States i24).length:Int) then if 0≤j26 then (some ()).bind fun _=>if ((rd (rd r5.1.States i24) j26).Rule)<((rd (rd r5.1.States i24) (IntKind.wrap .i64 (j26-1))).Rule) then some (.inr (.inr false)) else if ((rd (rd r5.1.States i24) (IntKind.wrap .i64 (j26-1))).Rule)=((rd (rd r5.1.States i24) j26).Rule) then if ((rd (rd r5.1.States i24) j26).Conj)<((rd (rd r5.1.States i24) (IntKind.wrap .i64 (j26-1))).Conj) then some (.inr (.inr false)) else if ((rd (rd r5.1.States i24) (IntKind.wrap .i64 (j26-1))).Conj)=((rd (rd r5.1.States i24) j26).Conj) then if ((rd (rd r5.1.States i24) j26).Pos)≤((rd (rd r5.1.States i24) (IntKind.wrap .i64 (j26-1))).Pos) then some (.inr (.inr false)) else M0.l2 K r5 i24 m (IntKind.wrap .i64 (j26+1)) else M0.l2 K r5 i24 m (IntKind.wrap .i64 (j26+1)) else M0.l2 K r5 i24 m (IntKind.wrap .i64 (j26+1)) else none else none else none else some (.inl j26) else none
def M0.l1 (K:Nat) (r5:(Automaton×Int)):Nat→Int→Option (Int ⊕ Bool)
 | 0,_=>none
 | m+1,i24=>if i24<(r5.1.States.length:Int) then brk (M0.l2 K r5 i24 K 1) fun j26=>brk (M0.l3 K r5 i24 K 0) fun j46=>M0.l1 K r5 m (IntKind.wrap .i64 (i24+1)) else some (.inl i24)
def M0.l0 (K:Nat) (g1:Grammar) (r5:(Automaton×Int)):Nat→Int→Option (Int ⊕ Bool)
 | 0,_=>none
 | m+1,i14=>if 0<(r5.1.States.length:Int) then if i14<((rd r5.1.States 0).length:Int) then if 0≤i14 then if ((rd (rd r5.1.States 0) i14).Pos)≠0 then some (.inr false) else if 0≤(rd (rd r5.1.States 0) i14).Rule then if (rd (rd r5.1.States 0) i14).Rule<(g1.Rules.length:Int) then (m9 K g1 ((rd g1.Rules ((rd (rd r5.1.States 0) i14).Rule)).Head)).bind fun r21=>if (!r21)=true then some (.inr false) else M0.l0 K g1 r5 m (IntKind.wrap .i64 (i14+1)) else none else none else none else some (.inl i14) else none
def M0 (K:Nat) (g1:Grammar):Option Bool:=(k4 K).bind fun r2=>if (!r2)=true then some false else (W3 K g1).bind fun r5=>(V1 K r5.2).bind fun r8=>if r8≠0 then some (decide ((r5.1.States.length:Int)=0)) else (Q4 K g1 (⟨r5.1.States,r5.1.Moves⟩:Automaton)).bind fun r11=>if (!r11)=true then some false else brk (M0.l0 K g1 r5 K 0) fun i14=>brk (M0.l1 K r5 K 0) fun i24=>(L0 K g1).bind fun r54=>if r54=true then some (decide ((r5.1.States.length:Int)≤256)) else some false
def M2.l2 (K:Nat) (sizes3:Int) (i15:Int) (j23:Int):Nat→((List Symbol)×Int)→Option ((List Symbol)×Int)
 | 0,_=>none
 | m+1,(xs28,q29)=>if 0≤j23 then if q29<(iand .i64 (ishr .i64 sizes3 j23) 3) then if (xs28.length+([(⟨(-1),i15,IntKind.wrap .i64 (i15+q29)⟩:Symbol)]:List Symbol).length)*24≤140737488355328 then M2.l2 K sizes3 i15 j23 m (xs28++([(⟨(-1),i15,IntKind.wrap .i64 (i15+q29)⟩:Symbol)]:List Symbol),IntKind.wrap .i64 (q29+1)) else none else some (xs28,q29) else none
def M2.l1 (K:Nat) (conj2:Int) (sizes3:Int) (i15:Int):Nat→((List Conjunct)×(List Place)×Int)→Option ((List Conjunct)×(List Place)×Int)
 | 0,_=>none
 | m+1,(xs20,xs22,j23)=>if j23<(IntKind.wrap .i64 (1+(iand .i64 conj2 7))) then (M2.l2 K sizes3 i15 j23 K (([]:List Symbol),0)).bind fun (xs28,q29)=>if (xs20.length+([(⟨decide ((iand .i64 j23 1)=1),xs28⟩:Conjunct)]:List Conjunct).length)*32≤140737488355328 then if (xs22.length+([(⟨IntKind.wrap .i64 (i15+1),j23,(0:Int)⟩:Place)]:List Place).length)*24≤140737488355328 then M2.l1 K conj2 sizes3 i15 m (xs20++([(⟨decide ((iand .i64 j23 1)=1),xs28⟩:Conjunct)]:List Conjunct),xs22++([(⟨IntKind.wrap .i64 (i15+1),j23,(0:Int)⟩:Place)]:List Place),IntKind.wrap .i64 (j23+1)) else none else none else some (xs20,xs22,j23)
def M2.l0 (K:Nat) (rules1:Int) (conj2:Int) (sizes3:Int):Nat→((List Place)×(List Rule)×Int)→Option ((List Place)×(List Rule)×Int)
 | 0,_=>none
 | m+1,(xs12,xs14,i15)=>if i15<(IntKind.wrap .i64 (1+(iand .i64 rules1 7))) then (M2.l1 K conj2 sizes3 i15 K (([]:List Conjunct),xs12,0)).bind fun (xs20,xs22,j23)=>if (xs14.length+([(⟨1,xs20⟩:Rule)]:List Rule).length)*32≤140737488355328 then M2.l0 K rules1 conj2 sizes3 m (xs22,xs14++([(⟨1,xs20⟩:Rule)]:List Rule),IntKind.wrap .i64 (i15+1)) else none else some (xs12,xs14,i15)
def M2 (K:Nat) (rules1:Int) (conj2:Int) (sizes3:Int):Option Bool:=(k4 K).bind fun r4=>if (!r4)=true then some false else (M2.l0 K rules1 conj2 sizes3 K (([(⟨(0:Int),(0:Int),(0:Int)⟩:Place)]:List Place),([(⟨(0:Int),([(⟨false,([(⟨1,(0:Int),(0:Int)⟩:Symbol)]:List Symbol)⟩:Conjunct)]:List Conjunct)⟩:Rule)]:List Rule),0)).bind fun (xs12,xs14,i15)=>(P3 K (⟨(0:Int),([(⟨#[83]⟩:ByteArray),(⟨#[88]⟩:ByteArray)]:List ByteArray),xs14⟩:Grammar) ([(⟨(0:Int),(0:Int),(0:Int)⟩:Place)]:List Place)).bind fun r40=>(P3 K (⟨(0:Int),([(⟨#[83]⟩:ByteArray),(⟨#[88]⟩:ByteArray)]:List ByteArray),xs14⟩:Grammar) ([(⟨(0:Int),(0:Int),1⟩:Place),(⟨(0:Int),(0:Int),1⟩:Place)]:List Place)).bind fun r43=>(P3 K (⟨(0:Int),([(⟨#[83]⟩:ByteArray),(⟨#[88]⟩:ByteArray)]:List ByteArray),xs14⟩:Grammar) []).bind fun r46=>(V1 K r40.2).bind fun r49=>if r49=0 then (G0 K r40.1 xs12).bind fun r52=>if r52=true then (V1 K r43.2).bind fun r55=>if r55=0 then (G0 K r43.1 ([(⟨(0:Int),(0:Int),1⟩:Place)]:List Place)).bind fun r58=>if r58=true then if (r46.1.length:Int)=0 then (V1 K r46.2).bind fun r62=>some (decide (r62=0)) else some false else some false else some false else some false else some false
set_option linter.unusedSimpArgs false
def RuleBd (r:Rule):Prop:=r.Conj.length≤8∧∀ c ∈ r.Conj,c.Seq.length≤64
def Bd (g:Grammar):Prop:=g.Rules.length≤256∧∀ r ∈ g.Rules,RuleBd r
def runL {τ ρ α:Type} (B:τ→α→τ ⊕ ρ):τ→List α→τ ⊕ ρ
 | s,[]=>.inl s
 | s,x::xs=>match B s x with | .inl s'=>runL B s' xs | .inr r=>.inr r
theorem scanL {τ ρ α:Type} [Inhabited α] (xs:List α) (L:Nat→τ×Int→Option ((τ×Int) ⊕ ρ)) (B:τ→α→τ ⊕ ρ) (I:Nat→τ→Prop)
  (step:∀ m s i,i<xs.length→I i s→L (m+1) (s,(i:Int))=match B s (rd xs (i:Int)) with | .inr r=>some (.inr r) | .inl s'=>L m (s',(i:Int)+1))
  (stop:∀ m s,L (m+1) (s,(xs.length:Int))=some (.inl (s,(xs.length:Int)))) (hI:∀ s i,i<xs.length→I i s→∀ s',B s (rd xs (i:Int)) = .inl s'→I (i+1) s')
  (m:Nat) (hm:xs.length<m) (s:τ) (h0:I 0 s):L m (s,0)=some (match runL B s xs with | .inl s'=>.inl (s',(xs.length:Int)) | .inr r=>.inr r):=by
 have key:∀ k i s m,i+k=xs.length→k<m→I i s→L m (s,(i:Int))=some (match runL B s (xs.drop i) with | .inl s'=>.inl (s',(xs.length:Int)) | .inr r=>.inr r):=by
  intro k
  induction k with
  | zero =>
   intro i s m hi hm h
   obtain ⟨m,rfl⟩:∃ q,m=q+1:=⟨m-1,by omega⟩
   have:i=xs.length:=by omega
   subst this
   rw [stop,List.drop_length];rfl
  | succ k ih =>
   intro i s m hi hm h
   obtain ⟨m,rfl⟩:∃ q,m=q+1:=⟨m-1,by omega⟩
   have hil:i<xs.length:=by omega
   have e:rd xs (i:Int)=xs[i]:=by rw [rd_nat,List.getD_eq_getElem?_getD,List.getElem?_eq_getElem hil];rfl
   have hn:=hI s i hil h
   rw [step m s i hil h,List.drop_eq_getElem_cons hil,runL,← e]
   cases hb:B s (rd xs (i:Int)) with
   | inr r=>rfl
   | inl s'=>simpa using ih (i+1) s' m (by omega) (by omega) (hn s' hb)
 simpa using key xs.length 0 s m (by omega) hm h0
def letterP (c:Int):Prop:=(65≤c∧c≤90)∨(97≤c∧c≤122)∨c=95
def moreP (c:Int):Prop:=letterP c∨(48≤c∧c≤57)
def nameP (s:ByteArray):Prop:=1≤s.size∧s.size≤32∧s≠(⟨#[115,116,97,114,116]⟩:ByteArray)∧letterP (bt s 0)∧∀ i:Nat,i<s.size→moreP (bt s (i:Int))
theorem letter_spec (K:Nat) (c:Int):∃ b,L7 K c=some b∧(b=true↔letterP c):=by
 unfold L7 letterP
 repeat' split
 all_goals refine ⟨_,rfl,?_⟩
 all_goals first | simp only [true_iff,decide_eq_true_eq] | skip
 all_goals omega
theorem more_spec (K:Nat) (c:Int):∃ b,G9 K c=some b∧(b=true↔moreP c):=by
 obtain ⟨b,hb,hl⟩:=letter_spec K c
 unfold G9 moreP
 rw [hb,Option.bind_some]
 repeat' split
 all_goals refine ⟨_,rfl,?_⟩
 all_goals simp only [true_iff,decide_eq_true_eq,Bool.false_eq_true,false_iff] at *
 all_goals rw [← hl]
 all_goals simp_all
 all_goals omega
theorem rletter_spec (K:Nat) (c:Int):∃ b,G6 K c=some b∧(b=true↔letterP c):=by
 unfold G6 letterP
 repeat' split
 all_goals refine ⟨_,rfl,?_⟩
 all_goals first | simp only [true_iff,decide_eq_true_eq] | skip
 all_goals omega
theorem rdigit_spec (K:Nat) (c:Int):∃ b,z7 K c=some b∧(b=true↔48≤c∧c≤57):=by
 unfold z7
 repeat' split
 all_goals refine ⟨_,rfl,?_⟩
 all_goals simp only [decide_eq_true_eq,Bool.false_eq_true,false_iff]
 all_goals omega
theorem ask_all {n K:Nat} {L:Nat→Int→Option (Int ⊕ Bool)} {p:Nat→Prop} (hn:n<K) (step:∀ m i,i<n→(p i∧L (m+1) (i:Int)=L m ((i:Int)+1))∨(¬ p i∧L (m+1) (i:Int)=some (.inr false)))
  (stop:∀ m,L (m+1) (n:Int)=some (.inl (n:Int))):(L K 0=some (.inl (n:Int))∧∀ i,i<n→p i)∨(L K 0=some (.inr false)∧¬ ∀ i,i<n→p i):=by
 have key:∀ k i m,i+k=n→k<m→(L m (i:Int)=some (.inl (n:Int))∧∀ j,i≤j→j<n→p j)∨(L m (i:Int)=some (.inr false)∧¬ ∀ j,i≤j→j<n→p j):=by
  intro k
  induction k with
  | zero =>
   intro i m hi hm
   obtain ⟨m,rfl⟩:∃ q,m=q+1:=⟨m-1,by omega⟩
   have:i=n:=by omega
   subst this
   exact .inl ⟨stop m,fun j h1 h2=>by omega⟩
  | succ k ih =>
   intro i m hi hm
   obtain ⟨m,rfl⟩:∃ q,m=q+1:=⟨m-1,by omega⟩
   rcases step m i (by omega) with ⟨hp,he⟩ | ⟨hp,he⟩
   ·rw [he]
    have:=ih (i+1) m (by omega) (by omega)
    rw [show ((i+1:Nat):Int)=(i:Int)+1 by omega] at this
    rcases this with ⟨h1,h2⟩ | ⟨h1,h2⟩
    ·refine .inl ⟨h1,fun j q1 q2=>?_⟩
     rcases Nat.eq_or_lt_of_le q1 with rfl | q1
     ·exact hp
     ·exact h2 j q1 q2
    ·exact .inr ⟨h1,fun h=>h2 fun j q1 q2=>h j (by omega) q2⟩
   ·exact .inr ⟨he,fun h=>hp (h i (Nat.le_refl _) (by omega))⟩
 have:=key n 0 K (by omega) hn
 rw [show ((0:Nat):Int)=0 from rfl] at this
 rcases this with ⟨h1,h2⟩ | ⟨h1,h2⟩
 ·exact .inl ⟨h1,fun i hi=>h2 i (Nat.zero_le _) hi⟩
 ·exact .inr ⟨h1,fun h=>h2 fun j _ hj=>h j hj⟩
theorem lexName_spec (K:Nat) (hK:1000≤K) (s:ByteArray):∃ b,M6 K s=some b∧(b=true↔nameP s):=by
 unfold M6 nameP
 by_cases h1:s=(⟨#[]⟩:ByteArray)
 ·rw [if_pos h1];refine ⟨_,rfl,?_⟩
  subst h1
  simp only [Bool.false_eq_true,false_iff]
  exact fun h=>absurd h.1 (by decide)
 rw [if_neg h1]
 by_cases h2:32<(s.size:Int)
 ·rw [if_pos h2];exact ⟨_,rfl,by simp;omega⟩
 rw [if_neg h2]
 have h0:0<(s.size:Int):=by
  rcases Nat.eq_zero_or_pos s.size with h | h
  ·exfalso;apply h1
   apply ByteArray.ext
   exact Array.eq_empty_of_size_eq_zero h
  ·omega
 by_cases h3:s=(⟨#[115,116,97,114,116]⟩:ByteArray)
 ·rw [if_pos h3];exact ⟨_,rfl,by simp [h3]⟩
 rw [if_neg h3,if_pos h0]
 obtain ⟨b,hb,hl⟩:=letter_spec K (bt s 0)
 rw [hb,Option.bind_some]
 cases b with
 | false=>exact ⟨false,rfl,by simp only [Bool.false_eq_true,false_iff];exact fun h=>absurd (hl.2 h.2.2.2.1) (by decide)⟩
 | true =>
  rw [if_neg (by decide)]
  rcases ask_all (n:=s.size) (K:=K) (L:=M6.l0 K s) (p:=fun i=>moreP (bt s (i:Int))) (by omega) (fun m i hi=>by
   obtain ⟨q,hq,hm⟩:=more_spec K (bt s (i:Int))
   simp only [M6.l0]
   rw [if_pos (by omega),if_pos (Int.natCast_nonneg i),hq,Option.bind_some,wr (a:=(i:Int)+1) (by omega) (by omega)]
   cases q with
   | true=>exact .inl ⟨hm.1 rfl,rfl⟩
   | false=>exact .inr ⟨fun h=>absurd (hm.2 h) (by decide),rfl⟩) (fun m=>by simp only [M6.l0];rw [if_neg (by omega)]) with ⟨h4,h5⟩ | ⟨h4,h5⟩
  ·rw [h4];exact ⟨true,rfl,by simp only [true_iff];exact ⟨by omega,by omega,h3,hl.1 rfl,h5⟩⟩
  ·rw [h4];exact ⟨false,rfl,by simp only [Bool.false_eq_true,false_iff];exact fun h=>h5 h.2.2.2.2⟩
theorem rName_spec (K:Nat) (hK:1000≤K) (s:ByteArray):∃ b,m3 K s=some b∧(b=true↔nameP s):=by
 unfold m3 nameP
 by_cases h1:(s.size:Int)<1
 ·rw [if_pos h1];exact ⟨_,rfl,by simp;omega⟩
 rw [if_neg h1]
 by_cases h2:32<(s.size:Int)
 ·rw [if_pos h2];exact ⟨_,rfl,by simp;omega⟩
 rw [if_neg h2]
 have h0:0<(s.size:Int):=by omega
 by_cases h3:s=(⟨#[115,116,97,114,116]⟩:ByteArray)
 ·rw [if_pos h3];exact ⟨_,rfl,by simp [h3]⟩
 rw [if_neg h3,if_pos h0]
 obtain ⟨b,hb,hl⟩:=rletter_spec K (bt s 0)
 rw [hb,Option.bind_some]
 cases b with
 | false=>exact ⟨false,rfl,by simp only [Bool.false_eq_true,false_iff];exact fun h=>absurd (hl.2 h.2.2.2.1) (by decide)⟩
 | true =>
  rw [if_neg (by decide)]
  rcases ask_all (n:=s.size) (K:=K) (L:=m3.l0 K s) (p:=fun i=>moreP (bt s (i:Int))) (by omega) (fun m i hi=>by
   obtain ⟨q,hq,hm⟩:=rletter_spec K (bt s (i:Int))
   obtain ⟨q2,hq2,hm2⟩:=rdigit_spec K (bt s (i:Int))
   simp only [m3.l0]
   rw [if_pos (by omega),if_pos (Int.natCast_nonneg i),hq,Option.bind_some,wr (a:=(i:Int)+1) (by omega) (by omega)]
   unfold moreP
   cases q with
   | true=>exact .inl ⟨.inl (hm.1 rfl),rfl⟩
   | false =>
    simp only [Bool.not_false,if_true,hq2,Option.bind_some]
    cases q2 with
    | true=>exact .inl ⟨.inr (hm2.1 rfl),rfl⟩
    | false=>exact .inr ⟨fun h=>h.elim (fun h=>absurd (hm.2 h) (by decide)) (fun h=>absurd (hm2.2 h) (by decide)),rfl⟩) (fun m=>by simp only [m3.l0];rw [if_neg (by omega)]) with ⟨h4,h5⟩ | ⟨h4,h5⟩
  ·rw [h4];exact ⟨true,rfl,by simp only [true_iff];exact ⟨by omega,by omega,h3,hl.1 rfl,h5⟩⟩
  ·rw [h4];exact ⟨false,rfl,by simp only [Bool.false_eq_true,false_iff];exact fun h=>h5 h.2.2.2.2⟩
def namesP (ns:List ByteArray):Prop:=1≤ns.length∧ns.length≤64∧(∀ s ∈ ns,nameP s)∧ns.Nodup
theorem mget_cons {κ ν:Type} [DecidableEq κ] {p:κ×ν} {es:List (κ×ν)} {q:κ}:mget (p::es) q=if p.1=q then some p.2 else mget es q:=by
 unfold mget
 rw [List.find?_cons]
 by_cases h:p.1=q <;> simp [h]
theorem mgetD_mput {κ:Type} [DecidableEq κ] {es:List (κ×Bool)} {k q:κ}:mgetD false (mput es k true) q=true↔q=k∨mgetD false es q=true:=by
 unfold mgetD
 induction es with
 | nil =>
  rw [mput,mget_cons]
  by_cases h:k=q
  ·simp [h]
  ·simp [h,Ne.symm h,mget]
 | cons p es ih =>
  rw [mput]
  split
  ·rename_i h
   rw [mget_cons,mget_cons,h]
   by_cases h2:k=q
   ·simp [h2]
   ·simp [h2,Ne.symm h2]
  ·rename_i h
   rw [mget_cons,mget_cons]
   by_cases h2:p.1=q
   ·simp only [if_pos h2,Option.getD_some]
    refine ⟨.inr,fun h3=>h3.elim (fun h4=>absurd (h2.trans h4) h) id⟩
   ·simp only [if_neg h2]
    exact ih
open Classical in
theorem names_run (es:List (ByteArray×Bool)):∀ ns:List ByteArray,((∃ es',runL (fun es s=>if nameP s then if mgetD false es s=true then .inr false else .inl (mput es s true) else .inr false) es ns = .inl es')∧(∀ s ∈ ns,nameP s)∧ns.Nodup∧∀ s ∈ ns,¬ mgetD false es s=true)∨(runL (fun es s=>if nameP s then if mgetD false es s=true then .inr false else .inl (mput es s true) else .inr false) es ns=(.inr false:List (ByteArray×Bool) ⊕ Bool)∧¬ ((∀ s ∈ ns,nameP s)∧ns.Nodup∧∀ s ∈ ns,¬ mgetD false es s=true))
 | []=>.inl ⟨⟨es,rfl⟩,by simp,List.nodup_nil,by simp⟩
 | s::ns=>by
  unfold runL
  by_cases h1:nameP s
  ·by_cases h2:mgetD false es s=true
   ·simp only [if_pos h1,if_pos h2]
    exact .inr ⟨trivial,fun h=>h.2.2 s (.head _) h2⟩
   ·simp only [if_pos h1,if_neg h2]
    have hm:∀ q,mgetD false (mput es s true) q=true↔q=s∨mgetD false es q=true:=fun q=>mgetD_mput
    rcases names_run (mput es s true) ns with ⟨h3,h4,h5,h6⟩ | ⟨h3,h4⟩
    ·refine .inl ⟨h3,fun q hq=>?_,List.nodup_cons.2 ⟨fun hs=>h6 s hs ((hm s).2 (.inl rfl)),h5⟩,fun q hq=>?_⟩
     ·rcases List.mem_cons.1 hq with rfl | hq
      ·exact h1
      ·exact h4 q hq
     ·rcases List.mem_cons.1 hq with rfl | hq
      ·exact h2
      ·exact fun h=>h6 q hq ((hm q).2 (.inr h))
    ·refine .inr ⟨h3,fun ⟨a1,a2,a3⟩=>h4 ⟨fun q hq=>a1 q (.tail _ hq),(List.nodup_cons.1 a2).2,fun q hq h=>?_⟩⟩
     rcases (hm q).1 h with rfl | h
     ·exact (List.nodup_cons.1 a2).1 hq
     ·exact a3 q (.tail _ hq) h
  ·simp only [if_neg h1]
   exact .inr ⟨trivial,fun h=>h1 (h.1 s (.head _))⟩
open Classical in
theorem names_spec (K:Nat) (hK:1000≤K) (ns:List ByteArray):∃ b,W5 K ns=some b∧(b=true↔namesP ns):=by
 unfold W5 namesP
 split
 ·exact ⟨_,rfl,by simp;omega⟩
 split
 ·exact ⟨_,rfl,by simp;omega⟩
 rename_i h1 h2
 have hs:=scanL ns (W5.l0 K ns) (fun es s=>if nameP s then if mgetD false es s=true then .inr false else .inl (mput es s true) else .inr false) (fun _ _=>True) (fun m s i hi _=>by
  obtain ⟨b,hb,hp⟩:=lexName_spec K hK (rd ns (i:Int))
  simp only [W5.l0]
  rw [if_pos (by omega),if_pos (Int.natCast_nonneg i),hb,Option.bind_some,wr (a:=(i:Int)+1) (by omega) (by omega)]
  cases b with
  | false=>rw [if_pos (by decide),if_neg (fun h=>absurd (hp.2 h) (by decide))]
  | true =>
   rw [if_neg (by decide),if_pos (hp.1 rfl)]
   split <;> rfl) (fun m s=>by simp only [W5.l0];rw [if_neg (by omega)]) (fun _ _ _ _ _ _=>trivial) K (by omega) [] trivial
 rw [hs]
 rcases names_run [] ns with ⟨⟨es',h3⟩,h4,h5,h6⟩ | ⟨h3,h4⟩
 ·rw [h3];exact ⟨true,rfl,by simp only [true_iff];exact ⟨by omega,by omega,h4,h5⟩⟩
 ·rw [h3];exact ⟨false,rfl,by simp only [Bool.false_eq_true,false_iff];exact fun h=>h4 ⟨h.2.2.1,h.2.2.2,fun s _ h=>by simp [mgetD,mget] at h⟩⟩
theorem find_spec (K:Nat) (hK:1000≤K) (ns:List ByteArray) (hl:ns.length≤64) (s:ByteArray):m4 K ns s=some (match firstOf (fun i=>if rd ns (i:Int)=s then some (i:Int) else none) ns.length 0 with | some i=>i | none=>-1):=by
 have:=scan ns.length (m4.l0 K ns s) (fun i=>if rd ns (i:Int)=s then some (i:Int) else none) (fun m i hi=>by
  simp only [m4.l0]
  rw [if_pos (by omega),if_pos (Int.natCast_nonneg i),wr (a:=(i:Int)+1) (by omega) (by omega)]
  split <;> rfl) (fun m=>by simp only [m4.l0];rw [if_neg (by omega)]) ns.length 0 K (by omega) (by omega)
 rw [show ((0:Nat):Int)=0 from rfl] at this
 unfold m4
 rw [this]
 generalize firstOf _ _ _=o
 cases o <;> rfl
theorem find_at (K:Nat) (hK:1000≤K) (ns:List ByteArray) (hl:ns.length≤64) (i:Nat) (hi:i<ns.length):∃ q,m4 K ns (rd ns (i:Int))=some q∧(q=(i:Int)↔∀ j:Nat,j<i→rd ns (j:Int)≠rd ns (i:Int)):=by
 refine ⟨_,find_spec K hK ns hl _,?_⟩
 cases hf:firstOf (fun k=>if rd ns (k:Int)=rd ns (i:Int) then some (k:Int) else none) ns.length 0 with
 | none =>
  have:=firstOf_none.1 hf i (by omega) (by omega)
  rw [if_pos rfl] at this;cases this
 | some r =>
  obtain ⟨j,_,h2,h3,h4⟩:=firstOf_some hf
  split at h3
  ·rename_i he
   cases h3
   simp only
   constructor
   ·intro e k hk hke
    have e:j=i:=by omega
    subst e
    have:=h4 k (by omega) hk
    rw [if_pos hke] at this;cases this
   ·intro h
    rcases Nat.lt_trichotomy j i with hlt | rfl | hlt
    ·exact absurd he (h j hlt)
    ·rfl
    ·have:=h4 i (by omega) hlt
     rw [if_pos rfl] at this;cases this
  ·cases h3
theorem nodup_rd (ns:List ByteArray):ns.Nodup↔∀ i,i<ns.length→∀ j:Nat,j<i→rd ns (j:Int)≠rd ns (i:Int):=by
 have e:∀ i (h:i<ns.length),rd ns (i:Int)=ns[i]:=fun i h=>by rw [rd_nat,List.getD_eq_getElem?_getD,List.getElem?_eq_getElem h];rfl
 rw [List.Nodup,List.pairwise_iff_getElem]
 constructor
 ·intro h i hi j hj
  rw [e i hi,e j (by omega)]
  exact h j i (by omega) hi hj
 ·intro h i j hi hj hij
  have:=h j hj i hij
  rwa [e i hi,e j hj] at this
theorem rnames_spec (K:Nat) (hK:1000≤K) (g:Grammar) (h1:1≤g.Names.length) (h2:g.Names.length≤64):(L0.l0 K g K 0=some (.inl (g.Names.length:Int))∧namesP g.Names)∨(L0.l0 K g K 0=some (.inr false)∧¬ namesP g.Names):=by
 rcases ask_all (n:=g.Names.length) (K:=K) (L:=L0.l0 K g) (p:=fun i=>nameP (rd g.Names (i:Int))∧∀ j:Nat,j<i→rd g.Names (j:Int)≠rd g.Names (i:Int)) (by omega) (fun m i hi=>by
  obtain ⟨b,hb,hp⟩:=rName_spec K hK (rd g.Names (i:Int))
  obtain ⟨q,hq,hf⟩:=find_at K hK g.Names h2 i hi
  simp only [L0.l0]
  rw [if_pos (by omega),if_pos (Int.natCast_nonneg i),hb,Option.bind_some,wr (a:=(i:Int)+1) (by omega) (by omega)]
  cases b with
  | false=>exact .inr ⟨fun h=>absurd (hp.2 h.1) (by decide),rfl⟩
  | true =>
   rw [if_neg (by decide),hq,Option.bind_some]
   by_cases he:q=(i:Int)
   ·rw [if_neg (fun h=>h he)];exact .inl ⟨⟨hp.1 rfl,hf.1 he⟩,rfl⟩
   ·rw [if_pos he];exact .inr ⟨fun h=>he (hf.2 h.2),rfl⟩) (fun m=>by simp only [L0.l0];rw [if_neg (by omega)]) with ⟨h4,h5⟩ | ⟨h4,h5⟩
 ·refine .inl ⟨h4,h1,h2,fun s hs=>?_,(nodup_rd _).2 fun i hi=>(h5 i hi).2⟩
  obtain ⟨i,hi,rfl⟩:=List.getElem_of_mem hs
  have:=(h5 i hi).1
  rwa [rd_nat,List.getD_eq_getElem?_getD,List.getElem?_eq_getElem hi] at this
 ·exact .inr ⟨h4,fun h=>h5 fun i hi=>⟨h.2.2.1 _ (rd_mem (Int.natCast_nonneg i) (by omega)),(nodup_rd _).1 h.2.2.2 i hi⟩⟩
def symP (s:Symbol) (n:Int):Prop:=(s.Name = -1∧0≤s.Lo∧s.Lo≤s.Hi∧s.Hi≤255)∨(0≤s.Name∧s.Name<n∧s.Lo=0∧s.Hi=0)
theorem symbol_spec (K:Nat) (s:Symbol) (n:Int):∃ b,M7 K s n=some b∧(b=true↔symP s n):=by
 unfold M7 symP
 repeat' split
 all_goals refine ⟨_,rfl,?_⟩
 all_goals simp only [decide_eq_true_eq,Bool.false_eq_true,false_iff]
 all_goals omega
theorem rsymbol_spec (K:Nat) (s:Symbol) (n:Int):∃ b,J6 K s n=some b∧(b=true↔symP s n):=by
 unfold J6 symP
 repeat' split
 all_goals refine ⟨_,rfl,?_⟩
 all_goals simp only [decide_eq_true_eq,Bool.false_eq_true,false_iff]
 all_goals omega
instance (s:Symbol) (n:Int):Decidable (symP s n):=by unfold symP;infer_instance
def conjP (n:Int) (c:Conjunct):Prop:=c.Seq.length≤64∧∀ s ∈ c.Seq,symP s n
instance (n:Int) (c:Conjunct):Decidable (conjP n c):=by unfold conjP;infer_instance
def ruleP (n:Int) (r:Rule):Prop:=1≤r.Conj.length∧r.Conj.length≤8∧∀ c ∈ r.Conj,conjP n c
instance (n:Int) (r:Rule):Decidable (ruleP n r):=by unfold ruleP;infer_instance
def sumC:List Conjunct→Nat
 | []=>0
 | c::cs=>c.Seq.length+sumC cs
def sumR (r:Rule):Nat:=sumC r.Conj
theorem all_rd {T:Type} [Inhabited T] {xs:List T} {p:T→Prop}:(∀ i,i<xs.length→p (rd xs (i:Int)))↔∀ x ∈ xs,p x:=by
 constructor
 ·intro h x hx
  obtain ⟨i,hi,rfl⟩:=List.getElem_of_mem hx
  have:=h i hi
  rwa [rd_nat,List.getD_eq_getElem?_getD,List.getElem?_eq_getElem hi] at this
 ·intro h i hi
  exact h _ (rd_mem (Int.natCast_nonneg i) (by omega))
theorem ask_all2 {ρ:Type} {n K:Nat} {L:Nat→Int→Option (Int ⊕ ρ)} {p:Nat→Prop} {no:ρ} (hn:n<K) (step:∀ m i,i<n→(p i∧L (m+1) (i:Int)=L m ((i:Int)+1))∨(¬ p i∧L (m+1) (i:Int)=some (.inr no)))
  (stop:∀ m,L (m+1) (n:Int)=some (.inl (n:Int))):(L K 0=some (.inl (n:Int))∧∀ i,i<n→p i)∨(L K 0=some (.inr no)∧¬ ∀ i,i<n→p i):=by
 have key:∀ k i m,i+k=n→k<m→(L m (i:Int)=some (.inl (n:Int))∧∀ j,i≤j→j<n→p j)∨(L m (i:Int)=some (.inr no)∧¬ ∀ j,i≤j→j<n→p j):=by
  intro k
  induction k with
  | zero =>
   intro i m hi hm
   obtain ⟨m,rfl⟩:∃ q,m=q+1:=⟨m-1,by omega⟩
   have:i=n:=by omega
   subst this
   exact .inl ⟨stop m,fun j h1 h2=>by omega⟩
  | succ k ih =>
   intro i m hi hm
   obtain ⟨m,rfl⟩:∃ q,m=q+1:=⟨m-1,by omega⟩
   rcases step m i (by omega) with ⟨hp,he⟩ | ⟨hp,he⟩
   ·rw [he]
    have:=ih (i+1) m (by omega) (by omega)
    rw [show ((i+1:Nat):Int)=(i:Int)+1 by omega] at this
    rcases this with ⟨h1,h2⟩ | ⟨h1,h2⟩
    ·refine .inl ⟨h1,fun j q1 q2=>?_⟩
     rcases Nat.eq_or_lt_of_le q1 with rfl | q1
     ·exact hp
     ·exact h2 j q1 q2
    ·exact .inr ⟨h1,fun h=>h2 fun j q1 q2=>h j (by omega) q2⟩
   ·exact .inr ⟨he,fun h=>hp (h i (Nat.le_refl _) (by omega))⟩
 have:=key n 0 K (by omega) hn
 rw [show ((0:Nat):Int)=0 from rfl] at this
 rcases this with ⟨h1,h2⟩ | ⟨h1,h2⟩
 ·exact .inl ⟨h1,fun i hi=>h2 i (Nat.zero_le _) hi⟩
 ·exact .inr ⟨h1,fun h=>h2 fun j _ hj=>h j hj⟩
def ruleB (n:Int) (s:Int) (c:Conjunct):Int ⊕ (Int×Bool):=if conjP n c then .inl (s+(c.Seq.length:Int)) else .inr (0,false)
theorem ruleB_run (n:Int):∀ (cs:List Conjunct) (s:Int),(runL (ruleB n) s cs = .inl (s+(sumC cs:Int))∧∀ c ∈ cs,conjP n c)∨(runL (ruleB n) s cs = .inr (0,false)∧¬ ∀ c ∈ cs,conjP n c)
 | [],s=>.inl ⟨by simp [runL,sumC],by simp⟩
 | c::cs,s=>by
  unfold runL ruleB
  by_cases h:conjP n c
  ·rw [if_pos h]
   rcases ruleB_run n cs (s+(c.Seq.length:Int)) with ⟨h1,h2⟩ | ⟨h1,h2⟩
   ·refine .inl ⟨?_,fun q hq=>?_⟩
    ·show runL (ruleB n) _ cs=_
     rw [h1,sumC];push_cast;rw [Int.add_assoc]
    ·rcases List.mem_cons.1 hq with rfl | hq
     ·exact h
     ·exact h2 q hq
   ·exact .inr ⟨h1,fun h3=>h2 fun q hq=>h3 q (.tail _ hq)⟩
  ·rw [if_neg h];exact .inr ⟨rfl,fun h3=>h (h3 c (.head _))⟩
theorem sumC_le {n:Int}:∀ {cs:List Conjunct},(∀ c ∈ cs,conjP n c)→sumC cs≤64*cs.length
 | [],_=>by simp [sumC]
 | c::cs,h=>by
  have h1:=(h c (.head _)).1
  have h2:=sumC_le (cs:=cs) fun q hq=>h q (.tail _ hq)
  rw [sumC,List.length_cons];omega
theorem rule_spec (K:Nat) (hK:1000≤K) (r:Rule) (n:Int):(y4 K r n=some ((sumR r:Int),true)∧ruleP n r)∨(∃ q,y4 K r n=some (q,false)∧¬ ruleP n r):=by
 unfold y4
 by_cases h1:(r.Conj.length:Int)<1
 ·rw [if_pos h1];exact .inr ⟨_,rfl,fun h=>by have:=h.1;omega⟩
 rw [if_neg h1]
 by_cases h2:8<(r.Conj.length:Int)
 ·rw [if_pos h2];exact .inr ⟨_,rfl,fun h=>by have:=h.2.1;omega⟩
 rw [if_neg h2]
 have hs:=scanL r.Conj (y4.l0 K r n) (ruleB n) (fun i s=>0≤s∧s≤64*i) (fun m s i hi hI=>by
  unfold ruleB
  simp only [y4.l0]
  rw [if_pos (by omega),if_pos (Int.natCast_nonneg i),wr (a:=(i:Int)+1) (by omega) (by omega)]
  by_cases h64:64<((rd r.Conj (i:Int)).Seq.length:Int)
  ·rw [if_pos h64,if_neg (fun h=>by have:=h.1;omega)]
  rw [if_neg h64,wr (by omega) (by omega)]
  rcases ask_all2 (n:=(rd r.Conj (i:Int)).Seq.length) (K:=K) (L:=y4.l1 K r n i) (p:=fun j=>symP (rd (rd r.Conj (i:Int)).Seq (j:Int)) n) (by omega) (fun m j hj=>by
   obtain ⟨b,hb,hp⟩:=symbol_spec K (⟨(rd ((rd r.Conj (i:Int)).Seq) (j:Int)).Name,(rd ((rd r.Conj (i:Int)).Seq) (j:Int)).Lo,(rd ((rd r.Conj (i:Int)).Seq) (j:Int)).Hi⟩:Symbol) n
   simp only [y4.l1]
   rw [if_pos (by omega),if_pos (Int.natCast_nonneg j),hb,Option.bind_some,wr (a:=(j:Int)+1) (by omega) (by omega)]
   cases b with
   | true=>exact .inl ⟨hp.1 rfl,rfl⟩
   | false=>exact .inr ⟨fun h=>absurd (hp.2 h) (by decide),rfl⟩) (fun m=>by simp only [y4.l1];rw [if_neg (by omega)]) with ⟨h4,h5⟩ | ⟨h4,h5⟩
  ·rw [h4,if_pos ⟨by omega,all_rd.1 h5⟩];rfl
  ·rw [h4,if_neg (fun h=>h5 (all_rd.2 h.2))];rfl) (fun m s=>by simp only [y4.l0];rw [if_neg (by omega)]) (fun s i hi hI s' h=>by
   unfold ruleB at h
   split at h
   ·rename_i hc
    cases h
    have:=hc.1
    exact ⟨by omega,by push_cast;omega⟩
   ·cases h) K (by omega) 0 ⟨by omega,by omega⟩
 rw [hs]
 rcases ruleB_run n r.Conj 0 with ⟨h4,h5⟩ | ⟨h4,h5⟩
 ·rw [h4];exact .inl ⟨by simp only [brk,Option.bind_some,Int.zero_add];rfl,by omega,by omega,h5⟩
 ·rw [h4];exact .inr ⟨0,rfl,fun h=>h5 h.2.2⟩
theorem rrule_spec (K:Nat) (hK:1000≤K) (r:Rule) (n:Int):(P1 K r n=some ((sumR r:Int),true)∧ruleP n r)∨(∃ q,P1 K r n=some (q,false)∧¬ ruleP n r):=by
 unfold P1
 by_cases h1:(r.Conj.length:Int)<1
 ·rw [if_pos h1];exact .inr ⟨_,rfl,fun h=>by have:=h.1;omega⟩
 rw [if_neg h1]
 by_cases h2:8<(r.Conj.length:Int)
 ·rw [if_pos h2];exact .inr ⟨_,rfl,fun h=>by have:=h.2.1;omega⟩
 rw [if_neg h2]
 have hs:=scanL r.Conj (P1.l0 K r n) (ruleB n) (fun i s=>0≤s∧s≤64*i) (fun m s i hi hI=>by
  unfold ruleB
  simp only [P1.l0]
  rw [if_pos (by omega),if_pos (Int.natCast_nonneg i),wr (a:=(i:Int)+1) (by omega) (by omega)]
  by_cases h64:64<((rd r.Conj (i:Int)).Seq.length:Int)
  ·rw [if_pos h64,if_neg (fun h=>by have:=h.1;omega)]
  rw [if_neg h64,wr (by omega) (by omega)]
  rcases ask_all2 (n:=(rd r.Conj (i:Int)).Seq.length) (K:=K) (L:=P1.l1 K r n i) (p:=fun j=>symP (rd (rd r.Conj (i:Int)).Seq (j:Int)) n) (by omega) (fun m j hj=>by
   obtain ⟨b,hb,hp⟩:=rsymbol_spec K (rd ((rd r.Conj (i:Int)).Seq) (j:Int)) n
   simp only [P1.l1]
   rw [if_pos (by omega),if_pos (Int.natCast_nonneg j),hb,Option.bind_some,wr (a:=(j:Int)+1) (by omega) (by omega)]
   cases b with
   | true=>exact .inl ⟨hp.1 rfl,rfl⟩
   | false=>exact .inr ⟨fun h=>absurd (hp.2 h) (by decide),rfl⟩) (fun m=>by simp only [P1.l1];rw [if_neg (by omega)]) with ⟨h4,h5⟩ | ⟨h4,h5⟩
  ·rw [h4,if_pos ⟨by omega,all_rd.1 h5⟩];rfl
  ·rw [h4,if_neg (fun h=>h5 (all_rd.2 h.2))];rfl) (fun m s=>by simp only [P1.l0];rw [if_neg (by omega)]) (fun s i hi hI s' h=>by
   unfold ruleB at h
   split at h
   ·rename_i hc
    cases h
    have:=hc.1
    exact ⟨by omega,by push_cast;omega⟩
   ·cases h) K (by omega) 0 ⟨by omega,by omega⟩
 rw [hs]
 rcases ruleB_run n r.Conj 0 with ⟨h4,h5⟩ | ⟨h4,h5⟩
 ·rw [h4];exact .inl ⟨by simp only [brk,Option.bind_some,Int.zero_add];rfl,by omega,by omega,h5⟩
 ·rw [h4];exact .inr ⟨0,rfl,fun h=>h5 h.2.2⟩
def chainP (n:Int):Int→List Rule→Prop
 | h,[]=>h=n-1
 | h,r::rs=>ruleP n r∧(r.Head=h∨r.Head=h+1)∧chainP n r.Head rs
def total:List Rule→Nat
 | []=>0
 | r::rs=>sumR r+total rs
def mayP (g:Grammar):Prop:=namesP g.Names∧0≤g.Start∧g.Start<(g.Names.length:Int)∧1≤g.Rules.length∧g.Rules.length≤256∧(rd g.Rules 0).Head=0∧chainP (g.Names.length:Int) (-1) g.Rules∧total g.Rules≤1024
def gB (n:Int) (s:Int×Int) (r:Rule):(Int×Int) ⊕ Bool:=if ruleP n r then if r.Head<s.1 then .inr false else if s.1+1<r.Head then .inr false else if 1024<s.2+(sumR r:Int) then .inr false else .inl (r.Head,s.2+(sumR r:Int)) else .inr false
theorem gB_run (n:Int):∀ (rs:List Rule) (s:Int×Int),s.2≤1024→((∃ s',runL (gB n) s rs = .inl s'∧(s'.1=n-1↔chainP n s.1 rs))∧s.2+(total rs:Int)≤1024)∨(runL (gB n) s rs = .inr false∧¬ (chainP n s.1 rs∧s.2+(total rs:Int)≤1024))
 | [],s,hs=>.inl ⟨⟨s,rfl,Iff.rfl⟩,by simp [total];omega⟩
 | r::rs,s,hs=>by
  unfold runL gB chainP total
  by_cases h1:ruleP n r
  ·rw [if_pos h1]
   by_cases h2:r.Head<s.1
   ·rw [if_pos h2];exact .inr ⟨rfl,fun h=>by have:=h.1.2.1;omega⟩
   rw [if_neg h2]
   by_cases h3:s.1+1<r.Head
   ·rw [if_pos h3];exact .inr ⟨rfl,fun h=>by have:=h.1.2.1;omega⟩
   rw [if_neg h3]
   by_cases h4:1024<s.2+(sumR r:Int)
   ·rw [if_pos h4];exact .inr ⟨rfl,fun h=>by have:=h.2;push_cast at this;omega⟩
   rw [if_neg h4]
   rcases gB_run n rs (r.Head,s.2+(sumR r:Int)) (by simp only;omega) with ⟨⟨s',h5,h6⟩,h7⟩ | ⟨h5,h6⟩
   ·refine .inl ⟨⟨s',h5,h6.trans ⟨fun h=>⟨h1,by omega,h⟩,fun h=>h.2.2⟩⟩,?_⟩
    simp only at h7;push_cast;omega
   ·refine .inr ⟨h5,fun h=>h6 ⟨h.1.2.2,?_⟩⟩
    have:=h.2;push_cast at this;simp only;omega
  ·rw [if_neg h1];exact .inr ⟨rfl,fun h=>h1 h.1.1⟩
theorem sumR_le {n:Int} {r:Rule} (h:ruleP n r):sumR r≤512:=by
 have:=sumC_le h.2.2
 have:=h.2.1
 unfold sumR;omega
theorem gMay_spec (K:Nat) (hK:1000≤K) (g:Grammar):∃ b,J5 K g=some b∧(b=true↔mayP g):=by
 unfold J5 mayP
 obtain ⟨b,hb,hn⟩:=names_spec K hK g.Names
 rw [hb,Option.bind_some]
 cases b with
 | false=>exact ⟨_,rfl,by simp only [Bool.false_eq_true,false_iff];exact fun h=>absurd (hn.2 h.1) (by decide)⟩
 | true =>
 rw [if_neg (by decide)]
 have hnm:=hn.1 rfl
 by_cases h1:g.Start<0
 ·rw [if_pos h1];exact ⟨_,rfl,by simp only [Bool.false_eq_true,false_iff];exact fun h=>by have:=h.2.1;omega⟩
 rw [if_neg h1]
 by_cases h2:(g.Names.length:Int)≤g.Start
 ·rw [if_pos h2];exact ⟨_,rfl,by simp only [Bool.false_eq_true,false_iff];exact fun h=>by have:=h.2.2.1;omega⟩
 rw [if_neg h2]
 by_cases h3:(g.Rules.length:Int)<1
 ·rw [if_pos h3];exact ⟨_,rfl,by simp only [Bool.false_eq_true,false_iff];exact fun h=>by have:=h.2.2.2.1;omega⟩
 rw [if_neg h3]
 by_cases h4:256<(g.Rules.length:Int)
 ·rw [if_pos h4];exact ⟨_,rfl,by simp only [Bool.false_eq_true,false_iff];exact fun h=>by have:=h.2.2.2.2.1;omega⟩
 rw [if_neg h4]
 have hs:=scanL (τ:=Int×Int) (ρ:=Bool) g.Rules (fun m s=>(J5.l0 K g m (s.1.1,s.1.2,s.2)).map fun | .inl (a,b,c)=>.inl ((a,b),c) | .inr r=>.inr r) (gB (g.Names.length:Int)) (fun i s=>-1≤s.1∧s.1≤i∧0≤s.2∧s.2≤1024) (fun m s i hi hI=>by
  unfold gB
  simp only [J5.l0]
  rw [if_pos (by omega),if_pos (Int.natCast_nonneg i),wr (a:=(i:Int)+1) (by omega) (by omega)]
  rcases rule_spec K hK (rd g.Rules (i:Int)) (g.Names.length:Int) with ⟨h5,h6⟩ | ⟨q,h5,h6⟩
  ·have:=sumR_le h6
   rw [h5,Option.bind_some,if_pos h6]
   simp only [Bool.not_true,Bool.false_eq_true,if_false]
   rw [wr (a:=s.1+1) (by omega) (by omega),wr (a:=s.2+(sumR (rd g.Rules (i:Int)):Int)) (by omega) (by omega)]
   repeat' split
   all_goals first | rfl | (rename_i h;cases h;done) | skip
   all_goals (rename_i h;cases h;rfl)
  ·rw [h5,Option.bind_some,if_neg h6];rfl) (fun m s=>by simp only [J5.l0];rw [if_neg (by omega)];rfl) (fun s i hi hI s' h=>by
  unfold gB at h
  split at h
  ·split at h
   ·cases h
   ·split at h
    ·cases h
    ·split at h
     ·cases h
     ·cases h;exact ⟨by simp only;omega,by simp only;push_cast;omega,by simp only;omega,by simp only;omega⟩
  ·cases h) K (by omega) (-1,0) ⟨by decide,by decide,by decide,by decide⟩
 have hpos:0<(g.Rules.length:Int):=by omega
 rcases gB_run (g.Names.length:Int) g.Rules (-1,0) (by decide) with ⟨⟨s',h5,h6⟩,h7⟩ | ⟨h5,h6⟩
 ·rw [h5] at hs
  have e:∃ c,J5.l0 K g K (-1,0,0)=some (.inl (s'.1,s'.2,c)):=by
   simp only at hs
   cases hl:J5.l0 K g K (-1,0,0) with
   | none=>rw [hl] at hs;cases hs
   | some x =>
    rw [hl] at hs
    cases x with
    | inl x=>obtain ⟨a,b,c⟩:=x;simp only [Option.map_some,Option.some.injEq,Sum.inl.injEq,Prod.mk.injEq] at hs;exact ⟨c,by rw [← hs.1]⟩
    | inr q=>cases hs
  obtain ⟨c,hl⟩:=e
  rw [hl]
  simp only [brk,Option.bind_some]
  rw [if_pos hpos]
  have hn64:=hnm.2.1
  by_cases h8:(rd g.Rules 0).Head=0
  ·rw [if_pos h8]
   refine ⟨_,rfl,?_⟩
   rw [decide_eq_true_eq,wr (by omega) (by omega),h6]
   simp only at h7
   exact ⟨fun h=>⟨hnm,by omega,by omega,by omega,by omega,h8,h,by omega⟩,fun h=>h.2.2.2.2.2.2.1⟩
  ·rw [if_neg h8]
   exact ⟨_,rfl,by simp only [Bool.false_eq_true,false_iff];exact fun h=>h8 h.2.2.2.2.2.1⟩
 ·rw [h5] at hs
  have e:J5.l0 K g K (-1,0,0)=some (.inr false):=by
   simp only at hs
   cases hl:J5.l0 K g K (-1,0,0) with
   | none=>rw [hl] at hs;cases hs
   | some x =>
    rw [hl] at hs
    cases x with
    | inl x=>cases hs
    | inr q=>cases hs;rfl
  rw [e]
  refine ⟨false,rfl,?_⟩
  simp only [Bool.false_eq_true,false_iff]
  exact fun h=>h6 ⟨h.2.2.2.2.2.2.1,by have:=h.2.2.2.2.2.2.2;simp only;omega⟩
theorem chain_le {n:Int}:∀ {rs:List Rule} {h:Int},chainP n h rs→h≤n-1
 | [],h,hc=>by rw [chainP] at hc;omega
 | r::rs,h,hc=>by
  rw [chainP] at hc
  have:=chain_le hc.2.2
  omega
def rB (n:Int) (s:Int×Int) (r:Rule):(Int×Int) ⊕ Bool:=if r.Head<0 then .inr false else if r.Head≠s.1∧r.Head≠s.1+1 then .inr false else if n≤r.Head then .inr false else if ruleP n r then .inl (r.Head,s.2+(sumR r:Int)) else .inr false
theorem rB_run (n:Int):∀ (rs:List Rule) (s:Int×Int),0≤s.1∨(∃ r rs',rs=r::rs'∧(0≤r.Head∨¬ chainP n s.1 rs))∨rs=[]→(∃ s',runL (rB n) s rs = .inl s'∧(s'.1=n-1↔chainP n s.1 rs)∧s'.2=s.2+(total rs:Int))∨(runL (rB n) s rs = .inr false∧(¬ chainP n s.1 rs))
 | [],s,hs=>.inl ⟨s,rfl,Iff.rfl,by simp [total]⟩
 | r::rs,s,hs=>by
  unfold runL rB total
  by_cases h0:r.Head<0
  ·rw [if_pos h0]
   refine .inr ⟨rfl,fun h=>?_⟩
   rw [chainP] at h
   rcases hs with hs | ⟨r',rs',e,hs | hs⟩ | e
   ·omega
   ·cases e;omega
   ·cases e;exact hs (by rw [chainP];exact h)
   ·cases e
  rw [if_neg h0]
  by_cases h2:r.Head≠s.1∧r.Head≠s.1+1
  ·rw [if_pos h2];exact .inr ⟨rfl,fun h=>by rw [chainP] at h;omega⟩
  rw [if_neg h2]
  by_cases h3:n≤r.Head
  ·rw [if_pos h3];exact .inr ⟨rfl,fun h=>by rw [chainP] at h;have:=chain_le h.2.2;omega⟩
  rw [if_neg h3]
  by_cases h1:ruleP n r
  ·rw [if_pos h1]
   rcases rB_run n rs (r.Head,s.2+(sumR r:Int)) (.inl (by simp only;omega)) with ⟨s',h5,h6,h7⟩ | ⟨h5,h6⟩
   ·refine .inl ⟨s',h5,h6.trans ?_,by rw [h7];simp only;push_cast;omega⟩
    rw [chainP]
    exact ⟨fun h=>⟨h1,by omega,h⟩,fun h=>h.2.2⟩
   ·exact .inr ⟨h5,fun h=>h6 (by rw [chainP] at h;exact h.2.2)⟩
  ·rw [if_neg h1];exact .inr ⟨rfl,fun h=>by rw [chainP] at h;exact h1 h.1⟩
theorem rMay_spec (K:Nat) (hK:1000≤K) (g:Grammar):∃ b,L0 K g=some b∧(b=true↔mayP g):=by
 unfold L0 mayP
 by_cases h1:(g.Names.length:Int)<1
 ·rw [if_pos h1];exact ⟨_,rfl,by simp only [Bool.false_eq_true,false_iff];exact fun h=>by have:=h.1.1;omega⟩
 rw [if_neg h1]
 by_cases h2:64<(g.Names.length:Int)
 ·rw [if_pos h2];exact ⟨_,rfl,by simp only [Bool.false_eq_true,false_iff];exact fun h=>by have:=h.1.2.1;omega⟩
 rw [if_neg h2]
 by_cases h3:g.Start<0
 ·rw [if_pos h3];exact ⟨_,rfl,by simp only [Bool.false_eq_true,false_iff];exact fun h=>by have:=h.2.1;omega⟩
 rw [if_neg h3]
 by_cases h4:(g.Names.length:Int)≤g.Start
 ·rw [if_pos h4];exact ⟨_,rfl,by simp only [Bool.false_eq_true,false_iff];exact fun h=>by have:=h.2.2.1;omega⟩
 rw [if_neg h4]
 by_cases h5:(g.Rules.length:Int)<1
 ·rw [if_pos h5];exact ⟨_,rfl,by simp only [Bool.false_eq_true,false_iff];exact fun h=>by have:=h.2.2.2.1;omega⟩
 rw [if_neg h5]
 by_cases h6:256<(g.Rules.length:Int)
 ·rw [if_pos h6];exact ⟨_,rfl,by simp only [Bool.false_eq_true,false_iff];exact fun h=>by have:=h.2.2.2.2.1;omega⟩
 rw [if_neg h6]
 rcases rnames_spec K hK g (by omega) (by omega) with ⟨h7,h8⟩ | ⟨h7,h8⟩
 rotate_left
 ·rw [h7];exact ⟨false,rfl,by simp only [Bool.false_eq_true,false_iff];exact fun h=>h8 h.1⟩
 rw [h7]
 simp only [brk,Option.bind_some]
 have hs:=scanL (τ:=Int×Int) (ρ:=Bool) g.Rules (fun m s=>(L0.l1 K g m (s.1.1,s.1.2,s.2)).map fun | .inl (a,b,c)=>.inl ((a,b),c) | .inr r=>.inr r) (rB (g.Names.length:Int)) (fun i s=>-1≤s.1∧s.1≤i∧0≤s.2∧s.2≤512*i) (fun m s i hi hI=>by
  unfold rB
  simp only [L0.l1]
  rw [if_pos (by omega),if_pos (Int.natCast_nonneg i),wr (a:=(i:Int)+1) (by omega) (by omega),wr (a:=s.1+1) (by omega) (by omega)]
  by_cases q0:(rd g.Rules (i:Int)).Head<0
  ·rw [if_pos q0,if_pos q0];rfl
  rw [if_neg q0,if_neg q0]
  by_cases q1:(rd g.Rules (i:Int)).Head≠s.1∧(rd g.Rules (i:Int)).Head≠s.1+1
  ·rw [if_pos q1.1,if_pos q1.2,if_pos q1];rfl
  rw [if_neg q1]
  by_cases q2:(g.Names.length:Int)≤(rd g.Rules (i:Int)).Head
  ·rw [if_pos q2,if_pos q2]
   by_cases q3:(rd g.Rules (i:Int)).Head≠s.1
   ·rw [if_pos q3,if_neg (fun h=>q1 ⟨q3,h⟩)];rfl
   ·rw [if_neg q3];rfl
  rw [if_neg q2,if_neg q2]
  have e:(if (rd g.Rules (i:Int)).Head≠s.1 then if (rd g.Rules (i:Int)).Head≠s.1+1 then some (.inr (.inr false)) else some (.inl ()) else some (.inl ()):Option (Unit ⊕ ((Int×Int×Int) ⊕ Bool)))=some (.inl ()):=by
   by_cases q3:(rd g.Rules (i:Int)).Head≠s.1
   ·rw [if_pos q3,if_neg (fun h=>q1 ⟨q3,h⟩)]
   ·rw [if_neg q3]
  rw [e]
  simp only [brk,Option.bind_some]
  rcases rrule_spec K hK (rd g.Rules (i:Int)) (g.Names.length:Int) with ⟨q5,q6⟩ | ⟨q,q5,q6⟩
  ·have:=sumR_le q6
   rw [q5,Option.bind_some,if_pos q6]
   simp only [Bool.not_true,Bool.false_eq_true,if_false]
   rw [wr (a:=s.2+(sumR (rd g.Rules (i:Int)):Int)) (by omega) (by omega)]
  ·rw [q5,Option.bind_some,if_neg q6];rfl) (fun m s=>by simp only [L0.l1];rw [if_neg (by omega)];rfl) (fun s i hi hI s' h=>by
  unfold rB at h
  split at h
  ·cases h
  split at h
  ·cases h
  split at h
  ·cases h
  split at h
  ·rename_i hr
   have:=sumR_le hr
   cases h
   refine ⟨by simp only;omega,by simp only;push_cast;omega,by simp only;omega,by simp only;push_cast;omega⟩
  ·cases h) K (by omega) (-1,0) ⟨by decide,by decide,by decide,by decide⟩
 have hne:∃ r rs',g.Rules=r::rs':=by
  cases hr:g.Rules with
  | nil=>rw [hr] at h5;simp at h5
  | cons r rs'=>exact ⟨r,rs',rfl⟩
 obtain ⟨r0,rs0,hr0⟩:=hne
 have hrd:rd g.Rules 0=r0:=by rw [hr0];rfl
 by_cases hneg:r0.Head<0
 ·have e:runL (rB (g.Names.length:Int)) (-1,0) g.Rules = .inr false:=by rw [hr0];unfold runL rB;rw [if_pos hneg]
  rw [e] at hs
  have e2:L0.l1 K g K (-1,0,0)=some (.inr false):=by
   simp only at hs
   cases hl:L0.l1 K g K (-1,0,0) with
   | none=>rw [hl] at hs;cases hs
   | some x =>
    rw [hl] at hs
    cases x with
    | inl x=>cases hs
    | inr q=>cases hs;rfl
  rw [e2]
  exact ⟨false,rfl,by simp only [Bool.false_eq_true,false_iff];exact fun h=>by have:=h.2.2.2.2.2.1;rw [hrd] at this;omega⟩
 rcases rB_run (g.Names.length:Int) g.Rules (-1,0) (.inr (.inl ⟨r0,rs0,hr0,.inl (by omega)⟩)) with ⟨s',q5,q6,q7⟩ | ⟨q5,q6⟩
 ·rw [q5] at hs
  have e:∃ c,L0.l1 K g K (-1,0,0)=some (.inl (s'.1,s'.2,c)):=by
   simp only at hs
   cases hl:L0.l1 K g K (-1,0,0) with
   | none=>rw [hl] at hs;cases hs
   | some x =>
    rw [hl] at hs
    cases x with
    | inl x=>obtain ⟨a,b,c⟩:=x;simp only [Option.map_some,Option.some.injEq,Sum.inl.injEq,Prod.mk.injEq] at hs;exact ⟨c,by rw [← hs.1]⟩
    | inr q=>cases hs
  obtain ⟨c,hl⟩:=e
  rw [hl]
  simp only [Option.bind_some]
  rw [wr (by omega) (by omega)]
  simp only at q7 q6
  by_cases q8:s'.1=(g.Names.length:Int)-1
  ·rw [if_pos q8]
   refine ⟨_,rfl,?_⟩
   rw [decide_eq_true_eq]
   have hc:=q6.1 q8
   have hz:r0.Head=0:=by
    have:=hc;rw [hr0,chainP] at this;omega
   exact ⟨fun h=>⟨h8,by omega,by omega,by omega,by omega,hrd ▸ hz,hc,by omega⟩,fun h=>by have:=h.2.2.2.2.2.2.2;omega⟩
  ·rw [if_neg q8]
   exact ⟨_,rfl,by simp only [Bool.false_eq_true,false_iff];exact fun h=>q8 (q6.2 h.2.2.2.2.2.2.1)⟩
 ·rw [q5] at hs
  have e:L0.l1 K g K (-1,0,0)=some (.inr false):=by
   simp only at hs
   cases hl:L0.l1 K g K (-1,0,0) with
   | none=>rw [hl] at hs;cases hs
   | some x =>
    rw [hl] at hs
    cases x with
    | inl x=>cases hs
    | inr q=>cases hs;rfl
  rw [e]
  exact ⟨false,rfl,by simp only [Bool.false_eq_true,false_iff];exact fun h=>q6 h.2.2.2.2.2.2.1⟩
end Go.Proofs.Ytgmnohjaciemmaa

