import Derived.Test.YtgmnohjaciemmaaW8
namespace Go.Proofs.Ytgmnohjaciemmaa
open S
set_option linter.unusedVariables false
set_option maxRecDepth 100000
set_option maxHeartbeats 4000000
def y0.l3 (K:Nat) (r5:(Automaton×Int)) (i24:Int):Nat→Int→Option (Int ⊕ (Int ⊕ Bool))
 | 0,_=>none
 | m+1,j46=>if j46<i24 then if 0≤i24 then if 0≤j46 then if j46<(r5.1.States.length:Int) then (L1 K (rd r5.1.States i24) (rd r5.1.States j46)).bind fun r51=>if r51=true then some (.inr (.inr false)) else y0.l3 K r5 i24 m (IntKind.wrap .i64 (j46+1)) else none else none else none else some (.inl j46)
def y0.l2 (K:Nat) (r5:(Automaton×Int)) (i24:Int):Nat→Int→Option (Int ⊕ (Int ⊕ Bool))
 | 0,_=>none
 | m+1,j26=>if 0≤i24 then if j26<((rd r5.1.States i24).length:Int) then if 0≤IntKind.wrap .i64 (j26-1) then if IntKind.wrap .i64 (j26-1)<((rd r5.1.States i24).length:Int) then if 0≤j26 then (some ()).bind fun _=>if ((rd (rd r5.1.States i24) j26).Rule)<((rd (rd r5.1.States i24) (IntKind.wrap .i64 (j26-1))).Rule) then some (.inr (.inr false)) else if ((rd (rd r5.1.States i24) (IntKind.wrap .i64 (j26-1))).Rule)=((rd (rd r5.1.States i24) j26).Rule) then if ((rd (rd r5.1.States i24) j26).Conj)<((rd (rd r5.1.States i24) (IntKind.wrap .i64 (j26-1))).Conj) then some (.inr (.inr false)) else if ((rd (rd r5.1.States i24) (IntKind.wrap .i64 (j26-1))).Conj)=((rd (rd r5.1.States i24) j26).Conj) then if ((rd (rd r5.1.States i24) j26).Pos)≤((rd (rd r5.1.States i24) (IntKind.wrap .i64 (j26-1))).Pos) then some (.inr (.inr false)) else y0.l2 K r5 i24 m (IntKind.wrap .i64 (j26+1)) else y0.l2 K r5 i24 m (IntKind.wrap .i64 (j26+1)) else y0.l2 K r5 i24 m (IntKind.wrap .i64 (j26+1)) else none else none else none else some (.inl j26) else none
def y0.l1 (K:Nat) (r5:(Automaton×Int)):Nat→Int→Option (Int ⊕ Bool)
 | 0,_=>none
 | m+1,i24=>if i24<(r5.1.States.length:Int) then brk (y0.l2 K r5 i24 K 1) fun j26=>brk (y0.l3 K r5 i24 K 0) fun j46=>y0.l1 K r5 m (IntKind.wrap .i64 (i24+1)) else some (.inl i24)
def y0.l0 (K:Nat) (g1:Grammar) (r5:(Automaton×Int)):Nat→Int→Option (Int ⊕ Bool)
 | 0,_=>none
 | m+1,i14=>if 0<(r5.1.States.length:Int) then if i14<((rd r5.1.States 0).length:Int) then if 0≤i14 then if ((rd (rd r5.1.States 0) i14).Pos)≠0 then some (.inr false) else if 0≤(rd (rd r5.1.States 0) i14).Rule then if (rd (rd r5.1.States 0) i14).Rule<(g1.Rules.length:Int) then (W7 K g1 ((rd g1.Rules ((rd (rd r5.1.States 0) i14).Rule)).Head)).bind fun r21=>if (!r21)=true then some (.inr false) else y0.l0 K g1 r5 m (IntKind.wrap .i64 (i14+1)) else none else none else none else some (.inl i14) else none
def y0 (K:Nat) (g1:Grammar):Option Bool:=(m6 K).bind fun r2=>if (!r2)=true then some false else (Q5 K g1).bind fun r5=>(m3 K r5.2).bind fun r8=>if r8≠0 then some (decide ((r5.1.States.length:Int)=0)) else (W2 K g1 (⟨r5.1.States,r5.1.Moves⟩:Automaton)).bind fun r11=>if (!r11)=true then some false else brk (y0.l0 K g1 r5 K 0) fun i14=>brk (y0.l1 K r5 K 0) fun i24=>(W1 K g1).bind fun r54=>if r54=true then some (decide ((r5.1.States.length:Int)≤256)) else some false
theorem m9 (K:Nat) (g1:Grammar):Pure Try.prog 7 [.agg (cGrammar.e g1)] (y0 K g1) (fun r=>Ab r):=by
 refine spec_of' Try.func7 rfl Try.ntmps7 (le_ rfl) ?_
 refine sSR Y<|sQ (P7 (az:=cGrammar.e g1) Y cAgg) Y<|sA Y Y<|j0<|W0<|sSR Y<|j4 fun r2 e3=>sQ (J4 ent21 (z7 K) e3 (.nil)) Y<|sQ (z8 Y) Y<|j0<|k6 Y (fun h4=>?_) (fun h4=>?_)
 ·refine sSR Y<|sA Y Y<|j0<|M0 [] Try.func7 Try.results7 (rT Y) ⟨Y,Y⟩
 ·refine P1<|sSR Y<|sQ (m7 g25 z25 Y (le_ Y)) Y<|j4 fun r5 e6=>sQ (J4 ent13 (M8 K _) e6 (.s Y .nil)) Y<|sM Y Y<|sQ (dX Y Y) Y<|sQ (dX Y Y) Y<|Q6 (az:=[.lit (.slice none 0 0),.lit (.slice none 0 0)]) al37 (fun _ _=>.cons Y (.cons Y .nil)) Y fun b7=>L7 (j:=0) z37 Y Y Y cAgg ((cAutomaton).one _) Y (le_ Y)<|sA Y Y<|j0<|W0<|sSR Y<|sM Y Y<|j4 fun r8 e9=>sQ (J4 ent16 (M5 K _) e9 (.s Y .nil)) Y<|sQ (dNe Y Y) Y<|j0<|P3 Y (fun h10=>?_) (fun h10=>?_)
  ·refine sSR Y<|sQ (J3 fa37_0 Y) Y<|sQ (W3 (j:=0) g34 Y Y Y) Y<|sQ (L4 Try.underlying34 Y) Y<|sQ (dEq Y Y) Y<|sA Y Y<|j0<|M0 [0] Try.func7 Try.results7 (rT Y) ⟨Y,Y⟩
  ·refine P1<|W0<|sSR Y<|sQ (m7 g25 z25 Y (le_ Y)) Y<|sQ (W6 (j:=0) g37 z37 Y Y (le_ Y)) Y<|j4 fun r11 e12=>sQ (J4 ent22 (k9 K _ _) e12 (.s Y<|.s Y .nil)) Y<|sQ (z8 Y) Y<|j0<|k6 Y (fun h13=>?_) (fun h13=>?_)
   ·refine sSR Y<|sA Y Y<|j0<|M0 [0] Try.func7 Try.results7 (rT Y) ⟨Y,Y⟩
   ·refine P1<|W0<|sSR Y<|sA Y Y<|j0<|G8 (y0.l0 K g1 r5) (fun (i14:Int) (_:Unit)=>([(1,.fptr ((cGrammar.e g1))),(3,.lit (.pointer (some ⟨b7,0,none⟩))),(5,Ai .i64 i14)]:Fr)) (fun (i14:Int) (_:Unit)=>([.box b7 [.fsl (cL cPlace) r5.1.States,.fsl cMove r5.1.Moves]]:List Res)) () (fun _=>Y) [] ⟨Y,Y,Y,trivial⟩ Y ?_ ?_
    ·rintro i14 _
     refine W0<|sSR Y<|sA Y Y<|j0<|G8 (y0.l1 K r5) (fun (i24:Int) (_:Unit)=>([(1,.fptr ((cGrammar.e g1))),(3,.lit (.pointer (some ⟨b7,0,none⟩))),(6,Ai .i64 i24)]:Fr)) (fun (i24:Int) (_:Unit)=>([.box b7 [.fsl (cL cPlace) r5.1.States,.fsl cMove r5.1.Moves]]:List Res)) () (fun _=>Y) [] ⟨Y,Y,Y,trivial⟩ Y ?_ ?_
     ·rintro i24 _
      refine sSR Y<|sQ (m7 g25 z25 Y (le_ Y)) Y<|j4 fun r54 e55=>sQ (J4 ent24 (k8 K _) e55 (.s Y .nil)) Y<|sM Y Y<|M3 (fun h56=>?_) (fun h56=>?_)
      ·refine sG 2 Y Y Y h56 Y (J3 fa37_0 Y) Y<|sG 2 Y Y Y h56 Y (W3 (j:=0) g34 Y Y Y) Y<|sG 2 Y Y Y h56 Y (L4 Try.underlying34 Y) Y<|sG 2 Y Y Y h56 Y (dLe Y Y) Y<|sQ (G0 Y h56 Y) Y<|sA Y Y<|j0<|M0 [0] Try.func7 Try.results7 (rT Y) ⟨Y,Y⟩
      ·refine sU 2 Y Y Y (eF h56) Y Y<|sU 2 Y Y Y (eF h56) Y Y<|sU 2 Y Y Y (eF h56) Y Y<|sU 2 Y Y Y (eF h56) Y Y<|sQ (P0 Y (eF h56) Y) Y<|sA Y Y<|j0<|M0 [0] Try.func7 Try.results7 (rT Y) ⟨Y,Y⟩
     ·rintro m i24 _ again1 out1
      refine W0<|sSR Y<|sM Y Y<|sQ (J3 fa37_0 Y) Y<|sQ (W3 (j:=0) g34 Y Y Y) Y<|sQ (L4 Try.underlying34 Y) Y<|sQ (dLt Y Y) Y<|j0<|P3 Y (fun h25=>?_) (fun h25=>?_)
      ·refine P1<|W0<|J6<|W0<|sSR Y<|sA Y Y<|j0<|G8 (y0.l2 K r5 i24) (fun (j26:Int) (_:Unit)=>([(1,.fptr ((cGrammar.e g1))),(3,.lit (.pointer (some ⟨b7,0,none⟩))),(6,Ai .i64 i24),(7,Ai .i64 j26)]:Fr)) (fun (j26:Int) (_:Unit)=>([.box b7 [.fsl (cL cPlace) r5.1.States,.fsl cMove r5.1.Moves]]:List Res)) () (fun _=>Y) [] ⟨Y,Y,Y,Y,trivial⟩ Y ?_ ?_
       ·rintro j26 _
        refine sSR Y<|sA Y Y<|j0<|G8 (y0.l3 K r5 i24) (fun (j46:Int) (_:Unit)=>([(1,.fptr ((cGrammar.e g1))),(3,.lit (.pointer (some ⟨b7,0,none⟩))),(6,Ai .i64 i24),(10,Ai .i64 j46)]:Fr)) (fun (j46:Int) (_:Unit)=>([.box b7 [.fsl (cL cPlace) r5.1.States,.fsl cMove r5.1.Moves]]:List Res)) () (fun _=>Y) [] ⟨Y,Y,Y,Y,trivial⟩ Y ?_ ?_
        ·rintro j46 _
         refine Q2<|y4 Y<|sM Y Y<|sQ (L5 Y Y) Y<|sA Y Y<|j0<|Q3 (again1 (IntKind.wrap .i64 (i24+1)) ()) [0] ⟨Y,Y,Y,trivial⟩ Y
        ·rintro m j46 _ again3 out3
         refine W0<|sSR Y<|sM Y Y<|sM Y Y<|sQ (dLt Y Y) Y<|j0<|P3 Y (fun h47=>?_) (fun h47=>?_)
         ·refine P1<|W0<|J6<|W0<|sIf fun h48=>sIf fun h49=>sIf fun h50=>Ga fun r51 e52=>G6 11 mixed Y (by kernel_rfl) (by kernel_rfl) (by kernel_rfl) (.r (J3 fa37_0 Y) Y<|.r (W3 (j:=0) g34 Y Y Y) Y<|.m Y Y<|.r (dIx Try.underlying34 z26 Y Y h48 h25) Y<|.r (dLd g26 Y Y) Y<|.r (J3 fa37_0 Y) Y<|.r (W3 (j:=0) g34 Y Y Y) Y<|.m Y Y<|.r (dIx Try.underlying34 z26 Y Y h49 h50) Y<|.r (dLd g26 Y Y) Y<|.r (J4 ent15 (j6 K _ _) e52 (.s Y<|.s Y .nil)) Y .n) Y<|j0<|k6 Y (fun h53=>?_) (fun h53=>?_)
          ·refine sSR Y<|sA Y Y<|j0<|y6<|y6<|M0 [0] Try.func7 Try.results7 (rT Y) ⟨Y,Y⟩
          ·refine P1<|Q2<|y4 Y<|sM Y Y<|sQ (L5 Y Y) Y<|sA Y Y<|j0<|Q3 (again3 (IntKind.wrap .i64 (j46+1)) ()) [0] ⟨Y,Y,Y,Y,trivial⟩ Y
         ·refine W4 Y<|Q3 (out3 j46 ()) [0] ⟨Y,Y,Y,Y,trivial⟩ Y
       ·rintro m j26 _ again2 out2
        refine W0<|sSR Y<|sM Y Y<|sQ (J3 fa37_0 Y) Y<|sQ (W3 (j:=0) g34 Y Y Y) Y<|sM Y Y<|V5 fun h27=>sQ (dIx Try.underlying34 z26 Y Y h27 h25) Y<|sQ (dLd g26 Y Y) Y<|sQ (L4 Try.underlying26 Y) Y<|sQ (dLt Y Y) Y<|j0<|P3 Y (fun h28=>?_) (fun h28=>?_)
        ·refine P1<|W0<|J6<|W0<|sIf fun h29=>sIf fun h30=>sIf fun h31=>qc (fun (_:Unit) (g_:(Nat×Nat))=>([(1,.fptr ((cGrammar.e g1))),(3,.lit (.pointer (some ⟨b7,0,none⟩))),(6,Ai .i64 i24),(7,Ai .i64 j26),(8,.lit (.pointer (some ⟨g_.1,0,none⟩))),(9,.lit (.pointer (some ⟨g_.2,0,none⟩)))]:Fr)) (fun (_:Unit) (g_:(Nat×Nat))=>([.box b7 [.fsl (cL cPlace) r5.1.States,.fsl cMove r5.1.Moves],.box g_.1 [Ai .i64 ((rd (rd r5.1.States i24) (IntKind.wrap .i64 (j26-1))).Rule),Ai .i64 ((rd (rd r5.1.States i24) (IntKind.wrap .i64 (j26-1))).Conj),Ai .i64 ((rd (rd r5.1.States i24) (IntKind.wrap .i64 (j26-1))).Pos)],.box g_.2 [Ai .i64 ((rd (rd r5.1.States i24) j26).Rule),Ai .i64 ((rd (rd r5.1.States i24) j26).Conj),Ai .i64 ((rd (rd r5.1.States i24) j26).Pos)]]:List Res)) ?_ ?_
         ·rintro _ ⟨b34,b35⟩
          refine sSR Y<|sQ (J3 fa55_0 Y) Y<|sQ (W3 (j:=1) g3 Y Y Y) Y<|sQ (J3 fa55_0 Y) Y<|sQ (W3 (j:=2) g3 Y Y Y) Y<|sQ (dGt Y Y) Y<|sM Y Y<|M3 (fun h41=>?_) (fun h41=>?_)
          ·refine sU 5 Y Y Y (dT h41) Y Y<|sU 5 Y Y Y (dT h41) Y Y<|sU 5 Y Y Y (dT h41) Y Y<|sU 5 Y Y Y (dT h41) Y Y<|sU 5 Y Y Y (dT h41) Y Y<|sU 5 Y Y Y (dT h41) Y Y<|sQv (j:=11) Y Y Y Y Y<|sQv (j:=11) Y Y Y Y Y<|sQv (j:=11) Y Y Y Y Y<|sQv (j:=11) Y Y Y Y Y<|sQv (j:=11) Y Y Y Y Y<|sQv (j:=11) Y Y Y Y Y<|sQv (j:=17) Y Y Y Y Y<|sQv (j:=17) Y Y Y Y Y<|sQv (j:=17) Y Y Y Y Y<|sQv (j:=17) Y Y Y Y Y<|sQv (j:=17) Y Y Y Y Y<|sQv (j:=17) Y Y Y Y Y<|sQv (j:=23) Y Y Y Y Y<|sQv (j:=23) Y Y Y Y Y<|sQv (j:=23) Y Y Y Y Y<|sQv (j:=23) Y Y Y Y Y<|sQv (j:=23) Y Y Y Y Y<|sQv (j:=17) Y Y Y Y Y<|sQv (j:=11) Y Y Y Y Y<|sU 5 Y Y Y (dT h41) Y Y<|sQ (G0 Y (dT h41) Y) Y<|j0<|M4 Y Y<|sSR Y<|sA Y Y<|j0<|y6<|y6<|M0 [2,1,0] Try.func7 Try.results7 (rT Y) ⟨Y,Y⟩
          ·refine sG 5 Y Y Y (dF h41) Y (J3 fa55_0 Y) Y<|sG 5 Y Y Y (dF h41) Y (W3 (j:=1) g3 Y Y Y) Y<|sG 5 Y Y Y (dF h41) Y (J3 fa55_0 Y) Y<|sG 5 Y Y Y (dF h41) Y (W3 (j:=2) g3 Y Y Y) Y<|sG 5 Y Y Y (dF h41) Y (dEq Y Y) Y<|sG 5 Y Y Y (dF h41) Y (dMv Y) Y<|M3 (fun h42=>?_) (fun h42=>?_)
           ·refine sG 11 Y Y Y (dT h42) Y (J3 fa55_1 Y) Y<|sG 11 Y Y Y (dT h42) Y (W3 (j:=1) g3 Y Y Y) Y<|sG 11 Y Y Y (dT h42) Y (J3 fa55_1 Y) Y<|sG 11 Y Y Y (dT h42) Y (W3 (j:=2) g3 Y Y Y) Y<|sG 11 Y Y Y (dT h42) Y (dGt Y Y) Y<|sG 11 Y Y Y (dT h42) Y (dMv Y) Y<|M3 (fun h43=>?_) (fun h43=>?_)
            ·refine sU 17 Y Y Y (dT h43) Y Y<|sU 17 Y Y Y (dT h43) Y Y<|sU 17 Y Y Y (dT h43) Y Y<|sU 17 Y Y Y (dT h43) Y Y<|sU 17 Y Y Y (dT h43) Y Y<|sU 17 Y Y Y (dT h43) Y Y<|sQv (j:=23) Y Y Y Y Y<|sQv (j:=23) Y Y Y Y Y<|sQv (j:=23) Y Y Y Y Y<|sQv (j:=23) Y Y Y Y Y<|sQv (j:=23) Y Y Y Y Y<|sU 17 Y Y Y (dT h43) Y Y<|sG 11 Y Y Y (dT h42) Y (G0 Y (dT h43) Y) Y<|sG 5 Y Y Y (dF h41) Y (G0 Y (dT h42) Y) Y<|sQ (P0 Y (dF h41) Y) Y<|j0<|M4 Y Y<|sSR Y<|sA Y Y<|j0<|y6<|y6<|M0 [2,1,0] Try.func7 Try.results7 (rT Y) ⟨Y,Y⟩
            ·refine sG 17 Y Y Y (dF h43) Y (J3 fa55_1 Y) Y<|sG 17 Y Y Y (dF h43) Y (W3 (j:=1) g3 Y Y Y) Y<|sG 17 Y Y Y (dF h43) Y (J3 fa55_1 Y) Y<|sG 17 Y Y Y (dF h43) Y (W3 (j:=2) g3 Y Y Y) Y<|sG 17 Y Y Y (dF h43) Y (dEq Y Y) Y<|sG 17 Y Y Y (dF h43) Y (dMv Y) Y<|M3 (fun h44=>?_) (fun h44=>?_)
             ·refine sG 23 Y Y Y (dT h44) Y (J3 fa55_2 Y) Y<|sG 23 Y Y Y (dT h44) Y (W3 (j:=1) g3 Y Y Y) Y<|sG 23 Y Y Y (dT h44) Y (J3 fa55_2 Y) Y<|sG 23 Y Y Y (dT h44) Y (W3 (j:=2) g3 Y Y Y) Y<|sG 23 Y Y Y (dT h44) Y (dGe Y Y) Y<|sG 17 Y Y Y (dF h43) Y (G0 Y (dT h44) Y) Y<|sG 11 Y Y Y (dT h42) Y (P0 Y (dF h43) Y) Y<|sG 5 Y Y Y (dF h41) Y (G0 Y (dT h42) Y) Y<|sQ (P0 Y (dF h41) Y) Y<|j0<|P3 Y (fun h45=>?_) (fun h45=>?_)
              ·refine sSR Y<|sA Y Y<|j0<|y6<|y6<|M0 [2,1,0] Try.func7 Try.results7 (rT Y) ⟨Y,Y⟩
              ·refine P1<|Q2<|y4 Y<|sM Y Y<|sQ (L5 Y Y) Y<|sA Y Y<|j0<|Q3 (again2 (IntKind.wrap .i64 (j26+1)) ()) [0] ⟨Y,Y,Y,Y,trivial⟩ Y
             ·refine sU 23 Y Y Y (dF h44) Y Y<|sU 23 Y Y Y (dF h44) Y Y<|sU 23 Y Y Y (dF h44) Y Y<|sU 23 Y Y Y (dF h44) Y Y<|sU 23 Y Y Y (dF h44) Y Y<|sG 17 Y Y Y (dF h43) Y (P0 Y (dF h44) Y) Y<|sG 11 Y Y Y (dT h42) Y (P0 Y (dF h43) Y) Y<|sG 5 Y Y Y (dF h41) Y (G0 Y (dT h42) Y) Y<|sQ (P0 Y (dF h41) Y) Y<|j0<|w8 Y Y<|P1<|Q2<|y4 Y<|sM Y Y<|sQ (L5 Y Y) Y<|sA Y Y<|j0<|Q3 (again2 (IntKind.wrap .i64 (j26+1)) ()) [0] ⟨Y,Y,Y,Y,trivial⟩ Y
           ·refine sU 11 Y Y Y (dF h42) Y Y<|sU 11 Y Y Y (dF h42) Y Y<|sU 11 Y Y Y (dF h42) Y Y<|sU 11 Y Y Y (dF h42) Y Y<|sU 11 Y Y Y (dF h42) Y Y<|sU 11 Y Y Y (dF h42) Y Y<|sQv (j:=17) Y Y Y Y Y<|sQv (j:=17) Y Y Y Y Y<|sQv (j:=17) Y Y Y Y Y<|sQv (j:=17) Y Y Y Y Y<|sQv (j:=17) Y Y Y Y Y<|sQv (j:=17) Y Y Y Y Y<|sQv (j:=23) Y Y Y Y Y<|sQv (j:=23) Y Y Y Y Y<|sQv (j:=23) Y Y Y Y Y<|sQv (j:=23) Y Y Y Y Y<|sQv (j:=23) Y Y Y Y Y<|sQv (j:=17) Y Y Y Y Y<|sU 11 Y Y Y (dF h42) Y Y<|sG 5 Y Y Y (dF h41) Y (P0 Y (dF h42) Y) Y<|sQ (P0 Y (dF h41) Y) Y<|j0<|w8 Y Y<|P1<|Q2<|y4 Y<|sM Y Y<|sQ (L5 Y Y) Y<|sA Y Y<|j0<|Q3 (again2 (IntKind.wrap .i64 (j26+1)) ()) [0] ⟨Y,Y,Y,Y,trivial⟩ Y
         ·intro join35
          refine Wc [(0,82,.lit (.pointer (some ⟨b7,0,none⟩))),(1,83,.fsl (cL cPlace) r5.1.States),(2,84,Ai .i64 i24),(3,85,.fptr (((cL cPlace).e (rd r5.1.States i24)))),(4,86,.fsl cPlace (rd r5.1.States i24)),(5,87,Ai .i64 j26),(6,88,Ai .i64 (IntKind.wrap .i64 (j26-1))),(7,89,.fptr ((cPlace.e (rd (rd r5.1.States i24) (IntKind.wrap .i64 (j26-1)))))),(8,90,.agg (cPlace.e (rd (rd r5.1.States i24) (IntKind.wrap .i64 (j26-1))))),(9,91,.lit (.pointer (some ⟨b7,0,none⟩))),(10,92,.fsl (cL cPlace) r5.1.States),(11,93,Ai .i64 i24),(12,94,.fptr (((cL cPlace).e (rd r5.1.States i24)))),(13,95,.fsl cPlace (rd r5.1.States i24)),(14,96,Ai .i64 j26),(15,97,.fptr ((cPlace.e (rd (rd r5.1.States i24) j26)))),(16,98,.agg (cPlace.e (rd (rd r5.1.States i24) j26)))] [17,18,19,20] [[17,18,19,20],[18,17,19,20]] mixed (by kernel_rfl) (by kernel_rfl) (by kernel_rfl) (by kernel_rfl) ⟨?_,?_,trivial⟩
          ·refine mE [82,83,84,85,86,87,88,89,90,91,92,93,94,95,96,97,98] [0,1,2,3,4,5,6,7,8,9,10,11,12,13,14,15,16] (by kernel_rfl) (by kernel_rfl) (by kernel_rfl) (by kernel_rfl) Y Y (.c Y Y Y Y (.r (J3 fa37_0 Y))<|.c Y Y Y Y (.r (W3 (j:=0) g34 Y Y Y))<|.c Y Y Y Y (.r (dMv Y))<|.c Y Y Y Y (.r (dIx Try.underlying34 z26 Y Y h27 h25))<|.c Y Y Y Y (.r (dLd g26 Y Y))<|.c Y Y Y Y (.r (dMv Y))<|.c Y Y Y Y (.r (mc Y Y))<|.c Y Y Y Y (.r (dIx Try.underlying26 z55 Y Y h29 h30))<|.c Y Y Y Y (.r (L9 g55 z55 Y (le_ Y) Y))<|.c Y Y Y Y (.r (J3 fa37_0 Y))<|.c Y Y Y Y (.r (W3 (j:=0) g34 Y Y Y))<|.c Y Y Y Y (.r (dMv Y))<|.c Y Y Y Y (.r (dIx Try.underlying34 z26 Y Y h27 h25))<|.c Y Y Y Y (.r (dLd g26 Y Y))<|.c Y Y Y Y (.r (dMv Y))<|.c Y Y Y Y (.r (dIx Try.underlying26 z55 Y Y h31 h28))<|.c Y Y Y Y (.r (L9 g55 z55 Y (le_ Y) Y)) .n) ?_
           intro ab17 l17 nx17
           refine Q6 (az:=[Ai .i64 (0:Int),Ai .i64 (0:Int),Ai .i64 (0:Int)]) al55 (fun _ _=>.cons Y (.cons Y (.cons Y .nil))) Y fun b37=>nx17 (H'':=[.box b37 [Ai .i64 (0:Int),Ai .i64 (0:Int),Ai .i64 (0:Int)],.box b7 [.fsl (cL cPlace) r5.1.States,.fsl cMove r5.1.Moves]]) [(8,.lit (.pointer (some ⟨b37,0,none⟩)))] [0,0] ⟨Y,trivial⟩ (by repeat (first | with_reducible exact .z | refine .s Y ?_)) Y (by kernel_rfl)<|mE [82,83,84,85,86,87,88,89,90,91,92,93,94,95,96,97,98] [0,1,2,3,4,5,6,7,8,9,10,11,12,13,14,15,16] (by kernel_rfl) (by kernel_rfl) (by kernel_rfl) (by kernel_rfl) Y Y (.c Y Y Y Y (.r (J3 fa37_0 Y))<|.c Y Y Y Y (.r (W3 (j:=1) g34 Y Y Y))<|.c Y Y Y Y (.r (dMv Y))<|.c Y Y Y Y (.r (dIx Try.underlying34 z26 Y Y h27 h25))<|.c Y Y Y Y (.r (dLd g26 Y Y))<|.c Y Y Y Y (.r (dMv Y))<|.c Y Y Y Y (.r (mc Y Y))<|.c Y Y Y Y (.r (dIx Try.underlying26 z55 Y Y h29 h30))<|.c Y Y Y Y (.r (L9 g55 z55 Y (le_ Y) Y))<|.c Y Y Y Y (.r (J3 fa37_0 Y))<|.c Y Y Y Y (.r (W3 (j:=1) g34 Y Y Y))<|.c Y Y Y Y (.r (dMv Y))<|.c Y Y Y Y (.r (dIx Try.underlying34 z26 Y Y h27 h25))<|.c Y Y Y Y (.r (dLd g26 Y Y))<|.c Y Y Y Y (.r (dMv Y))<|.c Y Y Y Y (.r (dIx Try.underlying26 z55 Y Y h31 h28))<|.c Y Y Y Y (.r (L9 g55 z55 Y (le_ Y) Y)) .n) ?_
           intro ab18 l18 nx18
           refine Q6 (az:=[Ai .i64 (0:Int),Ai .i64 (0:Int),Ai .i64 (0:Int)]) al55 (fun _ _=>.cons Y (.cons Y (.cons Y .nil))) Y fun b38=>nx18 (H'':=[.box b38 [Ai .i64 (0:Int),Ai .i64 (0:Int),Ai .i64 (0:Int)],.box b37 [Ai .i64 (0:Int),Ai .i64 (0:Int),Ai .i64 (0:Int)],.box b7 [.fsl (cL cPlace) r5.1.States,.fsl cMove r5.1.Moves]]) [(8,.lit (.pointer (some ⟨b37,0,none⟩))),(9,.lit (.pointer (some ⟨b38,0,none⟩)))] [0,0,0] ⟨Y,Y,trivial⟩ (by repeat (first | with_reducible exact .z | refine .s Y ?_)) Y (by kernel_rfl)<|mE [91,92,93,94,95,96,97,98] [0,1,2,3,4,5,6,7,8,9,10,11,12,13,14,15,16] (by kernel_rfl) (by kernel_rfl) (by kernel_rfl) (by kernel_rfl) Y Y (.c Y Y Y Y (.r (J3 fa37_0 Y))<|.c Y Y Y Y (.r (W3 (j:=2) g34 Y Y Y))<|.c Y Y Y Y (.r (dMv Y))<|.c Y Y Y Y (.r (dIx Try.underlying34 z26 Y Y h27 h25))<|.c Y Y Y Y (.r (dLd g26 Y Y))<|.c Y Y Y Y (.r (dMv Y))<|.c Y Y Y Y (.r (mc Y Y))<|.c Y Y Y Y (.r (dIx Try.underlying26 z55 Y Y h29 h30))<|.c Y Y Y Y (.r (L9 g55 z55 Y (le_ Y) Y))<|.c Y Y Y Y (.r (J3 fa37_0 Y))<|.c Y Y Y Y (.r (W3 (j:=2) g34 Y Y Y))<|.c Y Y Y Y (.r (dMv Y))<|.c Y Y Y Y (.r (dIx Try.underlying34 z26 Y Y h27 h25))<|.c Y Y Y Y (.r (dLd g26 Y Y))<|.c Y Y Y Y (.r (dMv Y))<|.c Y Y Y Y (.r (dIx Try.underlying26 z55 Y Y h31 h28))<|.c Y Y Y Y (.r (L9 g55 z55 Y (le_ Y) Y)) .n) ?_
           intro ab19 l19 nx19
           refine L7 (j:=1) z55 Y Y Y cAgg ((cPlace).one _) Y (le_ Y)<|nx19 (H'':=[.box b38 [Ai .i64 (0:Int),Ai .i64 (0:Int),Ai .i64 (0:Int)],.box b37 [Ai .i64 ((rd (rd r5.1.States i24) (IntKind.wrap .i64 (j26-1))).Rule),Ai .i64 ((rd (rd r5.1.States i24) (IntKind.wrap .i64 (j26-1))).Conj),Ai .i64 ((rd (rd r5.1.States i24) (IntKind.wrap .i64 (j26-1))).Pos)],.box b7 [.fsl (cL cPlace) r5.1.States,.fsl cMove r5.1.Moves]]) [(8,.lit (.pointer (some ⟨b37,0,none⟩))),(9,.lit (.pointer (some ⟨b38,0,none⟩)))] [0,0,0] ⟨Y,Y,trivial⟩ (by repeat (first | with_reducible exact .z | refine .s Y ?_)) Y (by kernel_rfl)<|mE [] [9,10,11,12,13,14,15,16] (by kernel_rfl) (by kernel_rfl) (by kernel_rfl) (by kernel_rfl) Y Y (.c Y Y Y Y (.r (J3 fa37_0 Y))<|.c Y Y Y Y (.r (W3 (j:=2) g34 Y Y Y))<|.c Y Y Y Y (.r (dMv Y))<|.c Y Y Y Y (.r (dIx Try.underlying34 z26 Y Y h27 h25))<|.c Y Y Y Y (.r (dLd g26 Y Y))<|.c Y Y Y Y (.r (dMv Y))<|.c Y Y Y Y (.r (dIx Try.underlying26 z55 Y Y h31 h28))<|.c Y Y Y Y (.r (L9 g55 z55 Y (le_ Y) Y)) .n) ?_
           intro ab20 l20 nx20
           refine L7 (j:=0) z55 Y Y Y cAgg ((cPlace).one _) Y (le_ Y)<|nx20 (H'':=[.box b38 [Ai .i64 ((rd (rd r5.1.States i24) j26).Rule),Ai .i64 ((rd (rd r5.1.States i24) j26).Conj),Ai .i64 ((rd (rd r5.1.States i24) j26).Pos)],.box b37 [Ai .i64 ((rd (rd r5.1.States i24) (IntKind.wrap .i64 (j26-1))).Rule),Ai .i64 ((rd (rd r5.1.States i24) (IntKind.wrap .i64 (j26-1))).Conj),Ai .i64 ((rd (rd r5.1.States i24) (IntKind.wrap .i64 (j26-1))).Pos)],.box b7 [.fsl (cL cPlace) r5.1.States,.fsl cMove r5.1.Moves]]) [(8,.lit (.pointer (some ⟨b37,0,none⟩))),(9,.lit (.pointer (some ⟨b38,0,none⟩)))] [0,0,0] ⟨Y,Y,trivial⟩ (by repeat (first | with_reducible exact .z | refine .s Y ?_)) Y (by kernel_rfl)<|mEnd [] (by kernel_rfl) (by kernel_rfl) (by kernel_rfl) (.n)<|Q3 (join35 () (b37,b38)) [2,1,0] ⟨Y,Y,Y,Y,Y,Y,trivial⟩ Y
          ·refine mE [82,83,84,85,86,87,88,89,90,91,92,93,94,95,96,97,98] [0,1,2,3,4,5,6,7,8,9,10,11,12,13,14,15,16] (by kernel_rfl) (by kernel_rfl) (by kernel_rfl) (by kernel_rfl) Y Y (.c Y Y Y Y (.r (J3 fa37_0 Y))<|.c Y Y Y Y (.r (W3 (j:=0) g34 Y Y Y))<|.c Y Y Y Y (.r (dMv Y))<|.c Y Y Y Y (.r (dIx Try.underlying34 z26 Y Y h27 h25))<|.c Y Y Y Y (.r (dLd g26 Y Y))<|.c Y Y Y Y (.r (dMv Y))<|.c Y Y Y Y (.r (mc Y Y))<|.c Y Y Y Y (.r (dIx Try.underlying26 z55 Y Y h29 h30))<|.c Y Y Y Y (.r (L9 g55 z55 Y (le_ Y) Y))<|.c Y Y Y Y (.r (J3 fa37_0 Y))<|.c Y Y Y Y (.r (W3 (j:=0) g34 Y Y Y))<|.c Y Y Y Y (.r (dMv Y))<|.c Y Y Y Y (.r (dIx Try.underlying34 z26 Y Y h27 h25))<|.c Y Y Y Y (.r (dLd g26 Y Y))<|.c Y Y Y Y (.r (dMv Y))<|.c Y Y Y Y (.r (dIx Try.underlying26 z55 Y Y h31 h28))<|.c Y Y Y Y (.r (L9 g55 z55 Y (le_ Y) Y)) .n) ?_
           intro ab18 l18 nx18
           refine Q6 (az:=[Ai .i64 (0:Int),Ai .i64 (0:Int),Ai .i64 (0:Int)]) al55 (fun _ _=>.cons Y (.cons Y (.cons Y .nil))) Y fun b39=>nx18 (H'':=[.box b39 [Ai .i64 (0:Int),Ai .i64 (0:Int),Ai .i64 (0:Int)],.box b7 [.fsl (cL cPlace) r5.1.States,.fsl cMove r5.1.Moves]]) [(9,.lit (.pointer (some ⟨b39,0,none⟩)))] [0,0] ⟨Y,trivial⟩ (by repeat (first | with_reducible exact .z | refine .s Y ?_)) Y (by kernel_rfl)<|mE [82,83,84,85,86,87,88,89,90,91,92,93,94,95,96,97,98] [0,1,2,3,4,5,6,7,8,9,10,11,12,13,14,15,16] (by kernel_rfl) (by kernel_rfl) (by kernel_rfl) (by kernel_rfl) Y Y (.c Y Y Y Y (.r (J3 fa37_0 Y))<|.c Y Y Y Y (.r (W3 (j:=1) g34 Y Y Y))<|.c Y Y Y Y (.r (dMv Y))<|.c Y Y Y Y (.r (dIx Try.underlying34 z26 Y Y h27 h25))<|.c Y Y Y Y (.r (dLd g26 Y Y))<|.c Y Y Y Y (.r (dMv Y))<|.c Y Y Y Y (.r (mc Y Y))<|.c Y Y Y Y (.r (dIx Try.underlying26 z55 Y Y h29 h30))<|.c Y Y Y Y (.r (L9 g55 z55 Y (le_ Y) Y))<|.c Y Y Y Y (.r (J3 fa37_0 Y))<|.c Y Y Y Y (.r (W3 (j:=1) g34 Y Y Y))<|.c Y Y Y Y (.r (dMv Y))<|.c Y Y Y Y (.r (dIx Try.underlying34 z26 Y Y h27 h25))<|.c Y Y Y Y (.r (dLd g26 Y Y))<|.c Y Y Y Y (.r (dMv Y))<|.c Y Y Y Y (.r (dIx Try.underlying26 z55 Y Y h31 h28))<|.c Y Y Y Y (.r (L9 g55 z55 Y (le_ Y) Y)) .n) ?_
           intro ab17 l17 nx17
           refine Q6 (az:=[Ai .i64 (0:Int),Ai .i64 (0:Int),Ai .i64 (0:Int)]) al55 (fun _ _=>.cons Y (.cons Y (.cons Y .nil))) Y fun b40=>nx17 (H'':=[.box b40 [Ai .i64 (0:Int),Ai .i64 (0:Int),Ai .i64 (0:Int)],.box b39 [Ai .i64 (0:Int),Ai .i64 (0:Int),Ai .i64 (0:Int)],.box b7 [.fsl (cL cPlace) r5.1.States,.fsl cMove r5.1.Moves]]) [(8,.lit (.pointer (some ⟨b40,0,none⟩))),(9,.lit (.pointer (some ⟨b39,0,none⟩)))] [0,0,0] ⟨Y,Y,trivial⟩ (by repeat (first | with_reducible exact .z | refine .s Y ?_)) Y (by kernel_rfl)<|mE [91,92,93,94,95,96,97,98] [0,1,2,3,4,5,6,7,8,9,10,11,12,13,14,15,16] (by kernel_rfl) (by kernel_rfl) (by kernel_rfl) (by kernel_rfl) Y Y (.c Y Y Y Y (.r (J3 fa37_0 Y))<|.c Y Y Y Y (.r (W3 (j:=2) g34 Y Y Y))<|.c Y Y Y Y (.r (dMv Y))<|.c Y Y Y Y (.r (dIx Try.underlying34 z26 Y Y h27 h25))<|.c Y Y Y Y (.r (dLd g26 Y Y))<|.c Y Y Y Y (.r (dMv Y))<|.c Y Y Y Y (.r (mc Y Y))<|.c Y Y Y Y (.r (dIx Try.underlying26 z55 Y Y h29 h30))<|.c Y Y Y Y (.r (L9 g55 z55 Y (le_ Y) Y))<|.c Y Y Y Y (.r (J3 fa37_0 Y))<|.c Y Y Y Y (.r (W3 (j:=2) g34 Y Y Y))<|.c Y Y Y Y (.r (dMv Y))<|.c Y Y Y Y (.r (dIx Try.underlying34 z26 Y Y h27 h25))<|.c Y Y Y Y (.r (dLd g26 Y Y))<|.c Y Y Y Y (.r (dMv Y))<|.c Y Y Y Y (.r (dIx Try.underlying26 z55 Y Y h31 h28))<|.c Y Y Y Y (.r (L9 g55 z55 Y (le_ Y) Y)) .n) ?_
           intro ab19 l19 nx19
           refine L7 (j:=0) z55 Y Y Y cAgg ((cPlace).one _) Y (le_ Y)<|nx19 (H'':=[.box b40 [Ai .i64 ((rd (rd r5.1.States i24) (IntKind.wrap .i64 (j26-1))).Rule),Ai .i64 ((rd (rd r5.1.States i24) (IntKind.wrap .i64 (j26-1))).Conj),Ai .i64 ((rd (rd r5.1.States i24) (IntKind.wrap .i64 (j26-1))).Pos)],.box b39 [Ai .i64 (0:Int),Ai .i64 (0:Int),Ai .i64 (0:Int)],.box b7 [.fsl (cL cPlace) r5.1.States,.fsl cMove r5.1.Moves]]) [(8,.lit (.pointer (some ⟨b40,0,none⟩))),(9,.lit (.pointer (some ⟨b39,0,none⟩)))] [0,0,0] ⟨Y,Y,trivial⟩ (by repeat (first | with_reducible exact .z | refine .s Y ?_)) Y (by kernel_rfl)<|mE [] [9,10,11,12,13,14,15,16] (by kernel_rfl) (by kernel_rfl) (by kernel_rfl) (by kernel_rfl) Y Y (.c Y Y Y Y (.r (J3 fa37_0 Y))<|.c Y Y Y Y (.r (W3 (j:=2) g34 Y Y Y))<|.c Y Y Y Y (.r (dMv Y))<|.c Y Y Y Y (.r (dIx Try.underlying34 z26 Y Y h27 h25))<|.c Y Y Y Y (.r (dLd g26 Y Y))<|.c Y Y Y Y (.r (dMv Y))<|.c Y Y Y Y (.r (dIx Try.underlying26 z55 Y Y h31 h28))<|.c Y Y Y Y (.r (L9 g55 z55 Y (le_ Y) Y)) .n) ?_
           intro ab20 l20 nx20
           refine L7 (j:=1) z55 Y Y Y cAgg ((cPlace).one _) Y (le_ Y)<|nx20 (H'':=[.box b40 [Ai .i64 ((rd (rd r5.1.States i24) (IntKind.wrap .i64 (j26-1))).Rule),Ai .i64 ((rd (rd r5.1.States i24) (IntKind.wrap .i64 (j26-1))).Conj),Ai .i64 ((rd (rd r5.1.States i24) (IntKind.wrap .i64 (j26-1))).Pos)],.box b39 [Ai .i64 ((rd (rd r5.1.States i24) j26).Rule),Ai .i64 ((rd (rd r5.1.States i24) j26).Conj),Ai .i64 ((rd (rd r5.1.States i24) j26).Pos)],.box b7 [.fsl (cL cPlace) r5.1.States,.fsl cMove r5.1.Moves]]) [(8,.lit (.pointer (some ⟨b40,0,none⟩))),(9,.lit (.pointer (some ⟨b39,0,none⟩)))] [0,0,0] ⟨Y,Y,trivial⟩ (by repeat (first | with_reducible exact .z | refine .s Y ?_)) Y (by kernel_rfl)<|mEnd [] (by kernel_rfl) (by kernel_rfl) (by kernel_rfl) (.n)<|Q3 (join35 () (b40,b39)) [2,0,0] ⟨Y,Y,Y,Y,Y,Y,trivial⟩ Y
        ·refine W4 Y<|Q3 (out2 j26 ()) [0] ⟨Y,Y,Y,Y,trivial⟩ Y
      ·refine W4 Y<|Q3 (out1 i24 ()) [0] ⟨Y,Y,Y,trivial⟩ Y
    ·rintro m i14 _ again0 out0
     refine W0<|sSR Y<|sM Y Y<|sQ (J3 fa37_0 Y) Y<|sQ (W3 (j:=0) g34 Y Y Y) Y<|V5 fun h15=>sQ (dIx Try.underlying34 z26 Y Y (by decide) h15) Y<|sQ (dLd g26 Y Y) Y<|sQ (L4 Try.underlying26 Y) Y<|sQ (dLt Y Y) Y<|j0<|P3 Y (fun h16=>?_) (fun h16=>?_)
     ·refine P1<|W0<|J6<|W0<|sIf fun h17=>ga (fun h18=>?_) (fun h18=>?_)
      ·refine G6 27 mixed Y (by kernel_rfl) (by kernel_rfl) (by kernel_rfl) (.r (J3 fa37_0 Y) Y<|.r (W3 (j:=0) g34 Y Y Y) Y<|.r (dIx Try.underlying34 z26 Y Y (by decide) h15) Y<|.r (dLd g26 Y Y) Y<|.m Y Y<|.r (dIx Try.underlying26 z55 Y Y h17 h16) Y<|.r (dFA fa55_2 Y) Y<|.r (dLd g3 Y Y) Y<|.r (dNe Y Y) Y<|.m Y Y<|.w 9 Y Y Y (dT h18) Y Y<|.w 9 Y Y Y (dT h18) Y Y<|.w 9 Y Y Y (dT h18) Y Y<|.w 9 Y Y Y (dT h18) Y Y<|.w 9 Y Y Y (dT h18) Y Y<|.w 9 Y Y Y (dT h18) Y Y<|.w 9 Y Y Y (dT h18) Y Y<|.w 9 Y Y Y (dT h18) Y Y<|.w 9 Y Y Y (dT h18) Y Y<|.w 9 Y Y Y (dT h18) Y Y<|.w 9 Y Y Y (dT h18) Y Y<|.w 9 Y Y Y (dT h18) Y Y<|.w 9 Y Y Y (dT h18) Y Y<|.w 9 Y Y Y (dT h18) Y Y<|.w 9 Y Y Y (dT h18) Y Y<|.w 9 Y Y Y (dT h18) Y Y<|.r (G0 Y (dT h18) Y) Y .n) Y<|j0<|M4 Y Y<|sSR Y<|sA Y Y<|j0<|y6<|M0 [0] Try.func7 Try.results7 (rT Y) ⟨Y,Y⟩
      ·refine sIf fun h19=>sIf fun h20=>Ga fun r21 e22=>G6 27 mixed Y (by kernel_rfl) (by kernel_rfl) (by kernel_rfl) (.r (J3 fa37_0 Y) Y<|.r (W3 (j:=0) g34 Y Y Y) Y<|.r (dIx Try.underlying34 z26 Y Y (by decide) h15) Y<|.r (dLd g26 Y Y) Y<|.m Y Y<|.r (dIx Try.underlying26 z55 Y Y h17 h16) Y<|.r (dFA fa55_2 Y) Y<|.r (dLd g3 Y Y) Y<|.r (dNe Y Y) Y<|.m Y Y<|.g 9 Y Y Y (dF h18) Y (m7 g25 z25 Y (le_ Y)) Y<|.g 9 Y Y Y (dF h18) Y (dFA fa25_2 Y) Y<|.g 9 Y Y Y (dF h18) Y (dLd g23 Y Y) Y<|.g 9 Y Y Y (dF h18) Y (J3 fa37_0 Y) Y<|.g 9 Y Y Y (dF h18) Y (W3 (j:=0) g34 Y Y Y) Y<|.g 9 Y Y Y (dF h18) Y (dIx Try.underlying34 z26 Y Y (by decide) h15) Y<|.g 9 Y Y Y (dF h18) Y (dLd g26 Y Y) Y<|.g 9 Y Y Y (dF h18) Y (dMv Y) Y<|.g 9 Y Y Y (dF h18) Y (dIx Try.underlying26 z55 Y Y h17 h16) Y<|.g 9 Y Y Y (dF h18) Y (dFA fa55_0 Y) Y<|.g 9 Y Y Y (dF h18) Y (dLd g3 Y Y) Y<|.g 9 Y Y Y (dF h18) Y (dIx Try.underlying23 z61 Y Y h19 h20) Y<|.g 9 Y Y Y (dF h18) Y (dFA fa61_0 Y) Y<|.g 9 Y Y Y (dF h18) Y (dLd g3 Y Y) Y<|.g 9 Y Y Y (dF h18) Y (J4 ent25 (va K _ _) e22 (.s Y<|.s Y .nil)) Y<|.g 9 Y Y Y (dF h18) Y (z8 Y) Y<|.r (P0 Y (dF h18) Y) Y .n) Y<|j0<|k6 Y (fun h23=>?_) (fun h23=>?_)
       ·refine sSR Y<|sA Y Y<|j0<|y6<|M0 [0] Try.func7 Try.results7 (rT Y) ⟨Y,Y⟩
       ·refine P1<|Q2<|y4 Y<|sM Y Y<|sQ (L5 Y Y) Y<|sA Y Y<|j0<|Q3 (again0 (IntKind.wrap .i64 (i14+1)) ()) [0] ⟨Y,Y,Y,trivial⟩ Y
     ·refine W4 Y<|Q3 (out0 i14 ()) [0] ⟨Y,Y,Y,trivial⟩ Y
def L0.l2 (K:Nat) (sizes3:Int) (i15:Int) (j23:Int):Nat→((List Symbol)×Int)→Option ((List Symbol)×Int)
 | 0,_=>none
 | m+1,(xs28,q29)=>if 0≤j23 then if q29<(iand .i64 (ishr .i64 sizes3 j23) 3) then if (xs28.length+([(⟨(-1),i15,IntKind.wrap .i64 (i15+q29)⟩:Symbol)]:List Symbol).length)*24≤140737488355328 then L0.l2 K sizes3 i15 j23 m (xs28++([(⟨(-1),i15,IntKind.wrap .i64 (i15+q29)⟩:Symbol)]:List Symbol),IntKind.wrap .i64 (q29+1)) else none else some (xs28,q29) else none
def L0.l1 (K:Nat) (conj2:Int) (sizes3:Int) (i15:Int):Nat→((List Conjunct)×(List Place)×Int)→Option ((List Conjunct)×(List Place)×Int)
 | 0,_=>none
 | m+1,(xs20,xs22,j23)=>if j23<(IntKind.wrap .i64 (1+(iand .i64 conj2 7))) then (L0.l2 K sizes3 i15 j23 K (([]:List Symbol),0)).bind fun (xs28,q29)=>if (xs20.length+([(⟨decide ((iand .i64 j23 1)=1),xs28⟩:Conjunct)]:List Conjunct).length)*32≤140737488355328 then if (xs22.length+([(⟨IntKind.wrap .i64 (i15+1),j23,(0:Int)⟩:Place)]:List Place).length)*24≤140737488355328 then L0.l1 K conj2 sizes3 i15 m (xs20++([(⟨decide ((iand .i64 j23 1)=1),xs28⟩:Conjunct)]:List Conjunct),xs22++([(⟨IntKind.wrap .i64 (i15+1),j23,(0:Int)⟩:Place)]:List Place),IntKind.wrap .i64 (j23+1)) else none else none else some (xs20,xs22,j23)
def L0.l0 (K:Nat) (rules1:Int) (conj2:Int) (sizes3:Int):Nat→((List Place)×(List Rule)×Int)→Option ((List Place)×(List Rule)×Int)
 | 0,_=>none
 | m+1,(xs12,xs14,i15)=>if i15<(IntKind.wrap .i64 (1+(iand .i64 rules1 7))) then (L0.l1 K conj2 sizes3 i15 K (([]:List Conjunct),xs12,0)).bind fun (xs20,xs22,j23)=>if (xs14.length+([(⟨1,xs20⟩:Rule)]:List Rule).length)*32≤140737488355328 then L0.l0 K rules1 conj2 sizes3 m (xs22,xs14++([(⟨1,xs20⟩:Rule)]:List Rule),IntKind.wrap .i64 (i15+1)) else none else some (xs12,xs14,i15)
def L0 (K:Nat) (rules1:Int) (conj2:Int) (sizes3:Int):Option Bool:=(m6 K).bind fun r4=>if (!r4)=true then some false else (L0.l0 K rules1 conj2 sizes3 K (([(⟨(0:Int),(0:Int),(0:Int)⟩:Place)]:List Place),([(⟨(0:Int),([(⟨false,([(⟨1,(0:Int),(0:Int)⟩:Symbol)]:List Symbol)⟩:Conjunct)]:List Conjunct)⟩:Rule)]:List Rule),0)).bind fun (xs12,xs14,i15)=>(j5 K (⟨(0:Int),([(⟨#[83]⟩:ByteArray),(⟨#[88]⟩:ByteArray)]:List ByteArray),xs14⟩:Grammar) ([(⟨(0:Int),(0:Int),(0:Int)⟩:Place)]:List Place)).bind fun r40=>(j5 K (⟨(0:Int),([(⟨#[83]⟩:ByteArray),(⟨#[88]⟩:ByteArray)]:List ByteArray),xs14⟩:Grammar) ([(⟨(0:Int),(0:Int),1⟩:Place),(⟨(0:Int),(0:Int),1⟩:Place)]:List Place)).bind fun r43=>(j5 K (⟨(0:Int),([(⟨#[83]⟩:ByteArray),(⟨#[88]⟩:ByteArray)]:List ByteArray),xs14⟩:Grammar) []).bind fun r46=>(m3 K r40.2).bind fun r49=>if r49=0 then (L1 K r40.1 xs12).bind fun r52=>if r52=true then (m3 K r43.2).bind fun r55=>if r55=0 then (L1 K r43.1 ([(⟨(0:Int),(0:Int),1⟩:Place)]:List Place)).bind fun r58=>if r58=true then if (r46.1.length:Int)=0 then (m3 K r46.2).bind fun r62=>some (decide (r62=0)) else some false else some false else some false else some false else some false
theorem P9 (K:Nat) (rules1:Int) (conj2:Int) (sizes3:Int):Pure Try.prog 8 [Ai .i64 rules1,Ai .i64 conj2,Ai .i64 sizes3] (L0 K rules1 conj2 sizes3) (fun r=>Ab r):=by
 refine spec_of' Try.func8 rfl Try.ntmps8 (le_ rfl) ?_
 refine sSR Y<|sA Y Y<|j0<|W0<|sSR Y<|j4 fun r4 e5=>sQ (J4 ent21 (z7 K) e5 (.nil)) Y<|sQ (z8 Y) Y<|j0<|k6 Y (fun h6=>?_) (fun h6=>?_)
 ·refine sSR Y<|sA Y Y<|j0<|M0 [] Try.func8 Try.results8 (rT Y) ⟨Y,Y⟩
 ·refine P1<|sSR Y<|sM Y Y<|sQ (vd Y Y) Y<|sQ (L5 Y Y) Y<|sM Y Y<|sQ (vd Y Y) Y<|sQ (L5 Y Y) Y<|sA Y Y<|sA Y Y<|sES Y<|sBS (c:=cS) (xs:=([(⟨#[83]⟩:ByteArray),(⟨#[88]⟩:ByteArray)]:List ByteArray)) Try.underlying22 z9 Pd (.c Y (cOne (oLit Y)) (.c Y (cOne (oLit Y)) .nil)) Y Y fun v7=>sQ (m5 (az:=[Ai .i64 (0:Int),Ai .i64 (0:Int),Ai .i64 (0:Int)]) Try.underlying51 zv51 pl51 (fun _ _=>.cons Y (.cons Y (.cons Y .nil))) (.c Y Y (cOne (oLit Y)) Y Y .nil)) Y<|sQ (dBS (c:=cSymbol) (xs:=([(⟨1,(0:Int),(0:Int)⟩:Symbol)]:List Symbol)) Try.underlying56 z51 La (.c Y cAgg .nil) Y) Y<|sQ (m5 (az:=[Ab false,.lit (.slice none 0 0)]) Try.underlying58 zv58 pl58 (fun _ _=>.cons Y (.cons Y .nil)) (.c Y Y (cOne oFsl) Y Y .nil)) Y<|sQ (dBS (c:=cConjunct) (xs:=([(⟨false,([(⟨1,(0:Int),(0:Int)⟩:Symbol)]:List Symbol)⟩:Conjunct)]:List Conjunct)) Try.underlying59 z58 mb (.c Y cAgg .nil) Y) Y<|sQ (m5 (az:=[Ai .i64 (0:Int),.lit (.slice none 0 0)]) Try.underlying61 zv61 pl61 (fun _ _=>.cons Y (.cons Y .nil)) (.c Y Y (cOne oFsl) Y Y .nil)) Y<|sBS (c:=cRule) (xs:=([(⟨(0:Int),([(⟨false,([(⟨1,(0:Int),(0:Int)⟩:Symbol)]:List Symbol)⟩:Conjunct)]:List Conjunct)⟩:Rule)]:List Rule)) Try.underlying23 z61 fb (.c Y cAgg .nil) Y Y fun v8=>sQ (m5 (az:=[Ai .i64 (0:Int),.lit (.slice none 0 0),.lit (.slice none 0 0)]) Try.underlying25 zv25 pl25 (fun _ _=>.cons Y (.cons Y (.cons Y .nil))) (.c Y Y (cOne oSv) Y Y (.c Y Y (cOne oSv) Y Y .nil))) Y<|Q6 (az:=[Ai .i64 (0:Int),.lit (.slice none 0 0),.lit (.slice none 0 0)]) al25 (fun _ _=>.cons Y (.cons Y (.cons Y .nil))) Y fun b9=>L7 (j:=0) z25 Y Y Y cAgg ⟨(oLit Y),oSv,oSv,trivial⟩ Y (le_ Y)<|sES Y<|sQ (m5 (az:=[Ai .i64 (0:Int),Ai .i64 (0:Int),Ai .i64 (0:Int)]) Try.underlying55 zv55 pl55 (fun _ _=>.cons Y (.cons Y (.cons Y .nil))) (.nil)) Y<|sBS (c:=cPlace) (xs:=([(⟨(0:Int),(0:Int),(0:Int)⟩:Place)]:List Place)) Try.underlying26 z55 k7 (.c Y cAgg .nil) Y Y fun v10=>sA Y Y<|j0<|W0<|sSR Y<|sA Y Y<|j0<|sLo (L0.l0 K rules1 conj2 sizes3) (fun ((xs12,xs14,i15):((List Place)×(List Rule)×Int)) (g_:(Value×Value))=>([(2,Ai .i64 sizes3),(7,Ai .i64 (IntKind.wrap .i64 (1+(iand .i64 rules1 7)))),(8,Ai .i64 (IntKind.wrap .i64 (1+(iand .i64 conj2 7)))),(9,.lit (.pointer (some ⟨b9,0,none⟩))),(10,.sv g_.1),(11,Ai .i64 i15)]:Fr)) (fun ((xs12,xs14,i15):((List Place)×(List Rule)×Int)) (g_:(Value×Value))=>([.own 55 cPlace g_.1 xs12,.box b9 [Ai .i64 (0:Int),.sv v7,.sv g_.2],.own 61 cRule g_.2 xs14,.own 9 cS v7 ([(⟨#[83]⟩:ByteArray),(⟨#[88]⟩:ByteArray)]:List ByteArray)]:List Res)) (v10,v8) (fun _=>Y) [] ⟨Y,Y,Y,Y,Y,Y,trivial⟩ Y ?_ ?_
  ·rintro ⟨xs12,xs14,i15⟩ ⟨v11,v13⟩
   refine sSR Y<|sQ (W6 (j:=1) g25 z25 Y Y (le_ Y)) Y<|sQ (m5 (az:=[Ai .i64 (0:Int),Ai .i64 (0:Int),Ai .i64 (0:Int)]) Try.underlying55 zv55 pl55 (fun _ _=>.cons Y (.cons Y (.cons Y .nil))) (.nil)) Y<|sQ (dBS (c:=cPlace) (xs:=([(⟨(0:Int),(0:Int),(0:Int)⟩:Place)]:List Place)) Try.underlying26 z55 k7 (.c Y cAgg .nil) Y) Y<|j4 fun r40 e41=>pc ent11 Y (M7 K _ _) e41 (fun _=>flTup ⟨flSv,flLit,trivial⟩) (fun _=>⟨flOwn (c:=cPlace) (fun _=>⟨flLit,flLit,flLit,trivial⟩),trivial⟩) (.g Y (lendA (.k (.o 3 Y (.o 2 Y (.n)))))<|.s Y .nil) Y fun v42=>sM Y Y<|sQ (dX Y Y) Y<|sQ (dX Y Y) Y<|sA Y Y<|sA Y Y<|sES Y<|sQ (W6 (j:=2) g25 z25 Y Y (le_ Y)) Y<|sQ (m5 (az:=[Ai .i64 (0:Int),Ai .i64 (0:Int),Ai .i64 (0:Int)]) Try.underlying55 zv55 pl55 (fun _ _=>.cons Y (.cons Y (.cons Y .nil))) (.c Y Y (cOne (oLit Y)) Y Y .nil)) Y<|sQ (m5 (az:=[Ai .i64 (0:Int),Ai .i64 (0:Int),Ai .i64 (0:Int)]) Try.underlying55 zv55 pl55 (fun _ _=>.cons Y (.cons Y (.cons Y .nil))) (.c Y Y (cOne (oLit Y)) Y Y .nil)) Y<|sQ (dBS (c:=cPlace) (xs:=([(⟨(0:Int),(0:Int),1⟩:Place),(⟨(0:Int),(0:Int),1⟩:Place)]:List Place)) Try.underlying26 z55 k7 (.c Y cAgg (.c Y cAgg .nil)) Y) Y<|j4 fun r43 e44=>pc ent11 Y (M7 K _ _) e44 (fun _=>flTup ⟨flSv,flLit,trivial⟩) (fun _=>⟨flOwn (c:=cPlace) (fun _=>⟨flLit,flLit,flLit,trivial⟩),trivial⟩) (.g Y (lendA (.k (.o 4 Y (.o 3 Y (.n)))))<|.s Y .nil) Y fun v45=>sM Y Y<|sQ (dX Y Y) Y<|sQ (dX Y Y) Y<|sA Y Y<|sA Y Y<|sES Y<|sQ (W6 (j:=3) g25 z25 Y Y (le_ Y)) Y<|j4 fun r46 e47=>pc ent11 Y (M7 K _ _) e47 (fun _=>flTup ⟨flSv,flLit,trivial⟩) (fun _=>⟨flOwn (c:=cPlace) (fun _=>⟨flLit,flLit,flLit,trivial⟩),trivial⟩) (.g Y (lendA (.k (.o 5 Y (.o 4 Y (.n)))))<|.n cPlace Y .nil) Y fun v48=>sM Y Y<|sQ (dX Y Y) Y<|sQ (dX Y Y) Y<|sA Y Y<|sA Y Y<|sES Y<|sM Y Y<|j4 fun r49 e50=>sQ (J4 ent16 (M5 K _) e50 (.s Y .nil)) Y<|sQ (dEq Y Y) Y<|sM Y Y<|M3 (fun h51=>?_) (fun h51=>?_)
   ·refine sG 3 Y Y Y (dT h51) Y (dMv Y) Y<|sG 3 Y Y Y (dT h51) Y (dMv Y) Y<|j4 fun r52 e53=>sG 3 Y Y Y (dT h51) Y (Pb ent15 (j6 K _ _) e53 flLit (.o 2 Y Y<|.o 3 Y Y .nil)) Y<|sQ (G0 Y (dT h51) Y) Y<|sM Y Y<|M3 (fun h54=>?_) (fun h54=>?_)
    ·refine sG 8 Y Y Y h54 Y (dMv Y) Y<|j4 fun r55 e56=>sG 8 Y Y Y h54 Y (J4 ent16 (M5 K _) e56 (.s Y .nil)) Y<|sG 8 Y Y Y h54 Y (dEq Y Y) Y<|sQ (G0 Y h54 Y) Y<|sM Y Y<|M3 (fun h57=>?_) (fun h57=>?_)
     ·refine sG 13 Y Y Y (dT h57) Y (dMv Y) Y<|sG 13 Y Y Y (dT h57) Y (m5 (az:=[Ai .i64 (0:Int),Ai .i64 (0:Int),Ai .i64 (0:Int)]) Try.underlying55 zv55 pl55 (fun _ _=>.cons Y (.cons Y (.cons Y .nil))) (.c Y Y (cOne (oLit Y)) Y Y .nil)) Y<|sG 13 Y Y Y (dT h57) Y (dBS (c:=cPlace) (xs:=([(⟨(0:Int),(0:Int),1⟩:Place)]:List Place)) Try.underlying26 z55 k7 (.c Y cAgg .nil) Y) Y<|j4 fun r58 e59=>sG 13 Y Y Y (dT h57) Y (Pb ent15 (j6 K _ _) e59 flLit (.o 1 Y Y<|.s Y .nil)) Y<|sQ (G0 Y (dT h57) Y) Y<|sM Y Y<|M3 (fun h60=>?_) (fun h60=>?_)
      ·refine sG 19 Y Y Y h60 Y (dMv Y) Y<|sG 19 Y Y Y h60 Y (Jb (j:=0) Try.underlying26 Y Y) Y<|sG 19 Y Y Y h60 Y (dEq Y Y) Y<|sQ (G0 Y h60 Y) Y<|sM Y Y<|M3 (fun h61=>?_) (fun h61=>?_)
       ·refine sG 24 Y Y Y (dT h61) Y (dMv Y) Y<|j4 fun r62 e63=>sG 24 Y Y Y (dT h61) Y (J4 ent16 (M5 K _) e63 (.s Y .nil)) Y<|sG 24 Y Y Y (dT h61) Y (dEq Y Y) Y<|sQ (G0 Y (dT h61) Y) Y<|sA Y Y<|j0<|sPk [] (H':=[]) Y<|M0 [] Try.func8 Try.results8 (rT Y) ⟨Y,Y⟩
       ·refine sU 24 Y Y Y (dF h61) Y Y<|sU 24 Y Y Y (dF h61) Y Y<|sU 24 Y Y Y (dF h61) Y Y<|sQ (P0 Y (dF h61) Y) Y<|sA Y Y<|j0<|sPk [] (H':=[]) Y<|M0 [] Try.func8 Try.results8 (rT Y) ⟨Y,Y⟩
      ·refine sU 19 Y Y Y (eF h60) Y Y<|sU 19 Y Y Y (eF h60) Y Y<|sU 19 Y Y Y (eF h60) Y Y<|sQ (P0 Y (eF h60) Y) Y<|sM Y Y<|sU 24 Y Y Y Y Y Y<|sU 24 Y Y Y Y Y Y<|sU 24 Y Y Y Y Y Y<|sQ (P0 Y Y Y) Y<|sA Y Y<|j0<|sPk [] (H':=[]) Y<|M0 [] Try.func8 Try.results8 (rT Y) ⟨Y,Y⟩
     ·refine sU 13 Y Y Y (dF h57) Y Y<|sU 13 Y Y Y (dF h57) Y Y<|sU 13 Y Y Y (dF h57) Y Y<|sU 13 Y Y Y (dF h57) Y Y<|sQ (P0 Y (dF h57) Y) Y<|sM Y Y<|sU 19 Y Y Y Y Y Y<|sU 19 Y Y Y Y Y Y<|sU 19 Y Y Y Y Y Y<|sQ (P0 Y Y Y) Y<|sM Y Y<|sU 24 Y Y Y Y Y Y<|sU 24 Y Y Y Y Y Y<|sU 24 Y Y Y Y Y Y<|sQ (P0 Y Y Y) Y<|sA Y Y<|j0<|sPk [] (H':=[]) Y<|M0 [] Try.func8 Try.results8 (rT Y) ⟨Y,Y⟩
    ·refine sU 8 Y Y Y (eF h54) Y Y<|sU 8 Y Y Y (eF h54) Y Y<|sU 8 Y Y Y (eF h54) Y Y<|sQ (P0 Y (eF h54) Y) Y<|sM Y Y<|sU 13 Y Y Y Y Y Y<|sU 13 Y Y Y Y Y Y<|sU 13 Y Y Y Y Y Y<|sU 13 Y Y Y Y Y Y<|sQ (P0 Y Y Y) Y<|sM Y Y<|sU 19 Y Y Y Y Y Y<|sU 19 Y Y Y Y Y Y<|sU 19 Y Y Y Y Y Y<|sQ (P0 Y Y Y) Y<|sM Y Y<|sU 24 Y Y Y Y Y Y<|sU 24 Y Y Y Y Y Y<|sU 24 Y Y Y Y Y Y<|sQ (P0 Y Y Y) Y<|sA Y Y<|j0<|sPk [] (H':=[]) Y<|M0 [] Try.func8 Try.results8 (rT Y) ⟨Y,Y⟩
   ·refine sU 3 Y Y Y (dF h51) Y Y<|sU 3 Y Y Y (dF h51) Y Y<|sU 3 Y Y Y (dF h51) Y Y<|sQ (P0 Y (dF h51) Y) Y<|sM Y Y<|sU 8 Y Y Y Y Y Y<|sU 8 Y Y Y Y Y Y<|sU 8 Y Y Y Y Y Y<|sQ (P0 Y Y Y) Y<|sM Y Y<|sU 13 Y Y Y Y Y Y<|sU 13 Y Y Y Y Y Y<|sU 13 Y Y Y Y Y Y<|sU 13 Y Y Y Y Y Y<|sQ (P0 Y Y Y) Y<|sM Y Y<|sU 19 Y Y Y Y Y Y<|sU 19 Y Y Y Y Y Y<|sU 19 Y Y Y Y Y Y<|sQ (P0 Y Y Y) Y<|sM Y Y<|sU 24 Y Y Y Y Y Y<|sU 24 Y Y Y Y Y Y<|sU 24 Y Y Y Y Y Y<|sQ (P0 Y Y Y) Y<|sA Y Y<|j0<|sPk [] (H':=[]) Y<|M0 [] Try.func8 Try.results8 (rT Y) ⟨Y,Y⟩
  ·rintro m ⟨xs12,xs14,i15⟩ ⟨v11,v13⟩ again0 out0
   refine W0<|sSR Y<|sM Y Y<|sM Y Y<|sQ (dLt Y Y) Y<|j0<|P3 Y (fun h16=>?_) (fun h16=>?_)
   ·refine P1<|W0<|J6<|sSR Y<|sQ (m5 (az:=[Ai .i64 (0:Int),.lit (.slice none 0 0)]) Try.underlying61 zv61 pl61 (fun _ _=>.cons Y (.cons Y .nil)) (.c Y Y (cOne (oLit Y)) Y Y .nil)) Y<|Q6 (az:=[Ai .i64 (0:Int),.lit (.slice none 0 0)]) al61 (fun _ _=>.cons Y (.cons Y .nil)) Y fun b17=>L7 (j:=0) z61 Y Y Y cAgg ⟨(oLit Y),(oLit Y),trivial⟩ Y (le_ Y)<|j0<|W0<|sSR Y<|sA Y Y<|j0<|Wb (c:=cConjunct) 0 1 58 Y Y fun v18=>sLo (L0.l1 K conj2 sizes3 i15) (fun ((xs20,xs22,j23):((List Conjunct)×(List Place)×Int)) (g_:(Value×Value))=>([(2,Ai .i64 sizes3),(7,Ai .i64 (IntKind.wrap .i64 (1+(iand .i64 rules1 7)))),(8,Ai .i64 (IntKind.wrap .i64 (1+(iand .i64 conj2 7)))),(9,.lit (.pointer (some ⟨b9,0,none⟩))),(10,.sv g_.2),(11,Ai .i64 i15),(12,.lit (.pointer (some ⟨b17,0,none⟩))),(13,Ai .i64 j23)]:Fr)) (fun ((xs20,xs22,j23):((List Conjunct)×(List Place)×Int)) (g_:(Value×Value))=>([.own 58 cConjunct g_.1 xs20,.box b17 [Ai .i64 1,.sv g_.1],.own 55 cPlace g_.2 xs22,.box b9 [Ai .i64 (0:Int),.sv v7,.sv v13],.own 61 cRule v13 xs14,.own 9 cS v7 ([(⟨#[83]⟩:ByteArray),(⟨#[88]⟩:ByteArray)]:List ByteArray)]:List Res)) (v18,v11) (fun _=>Y) [] ⟨Y,Y,Y,Y,Y,Y,Y,Y,trivial⟩ Y ?_ ?_
    ·rintro ⟨xs20,xs22,j23⟩ ⟨v19,v21⟩
     refine y4 Y<|sQ (J3 fa25_2 Y) Y<|sQ (W3 (j:=3) g23 Y Y Y) Y<|sQ (W6 (j:=1) g61 z61 Y Y (le_ Y)) Y<|td 0 Y<|Vb 88 1 0 Y Y Y<|Qc 1 1 0 Y Y Y<|sQ (dBS (c:=cRule) (xs:=([(⟨1,xs20⟩:Rule)]:List Rule)) Try.underlying23 z61 fb (.c Y cAgg .nil) Y) Y<|V5 fun h38=>sAp (j:=4) Try.underlying23 fb Y Y Y Y h38 Y Y fun v39=>sQ (J3 fa25_2 Y) Y<|L7 (j:=3) z23 Y Y Y (cOne oSv) ⟨oSv,trivial⟩ Y (le_ Y)<|j0<|Q2<|y4 Y<|sM Y Y<|sQ (L5 Y Y) Y<|sA Y Y<|j0<|Q3 (again0 (xs22,xs14++([(⟨1,xs20⟩:Rule)]:List Rule),IntKind.wrap .i64 (i15+1)) (v21,v39)) [2,2,2,2] ⟨Y,Y,Y,Y,Y,Y,trivial⟩ Y
    ·rintro m ⟨xs20,xs22,j23⟩ ⟨v19,v21⟩ again1 out1
     refine W0<|sSR Y<|sM Y Y<|sM Y Y<|sQ (dLt Y Y) Y<|j0<|P3 Y (fun h24=>?_) (fun h24=>?_)
     ·refine P1<|W0<|J6<|sSR Y<|sM Y Y<|sQ (vd Y Y) Y<|sQ (dEq Y Y) Y<|sQ (m5 (az:=[Ab false,.lit (.slice none 0 0)]) Try.underlying58 zv58 pl58 (fun _ _=>.cons Y (.cons Y .nil)) (.c Y Y (cOne (oLit Y)) Y Y .nil)) Y<|Q6 (az:=[Ab false,.lit (.slice none 0 0)]) al58 (fun _ _=>.cons Y (.cons Y .nil)) Y fun b25=>L7 (j:=0) z58 Y Y Y cAgg ⟨(oLit Y),(oLit Y),trivial⟩ Y (le_ Y)<|j0<|W0<|sSR Y<|sA Y Y<|j0<|Wb (c:=cSymbol) 0 1 51 Y Y fun v26=>sLo (L0.l2 K sizes3 i15 j23) (fun ((xs28,q29):((List Symbol)×Int)) (v27:Value)=>([(2,Ai .i64 sizes3),(7,Ai .i64 (IntKind.wrap .i64 (1+(iand .i64 rules1 7)))),(8,Ai .i64 (IntKind.wrap .i64 (1+(iand .i64 conj2 7)))),(9,.lit (.pointer (some ⟨b9,0,none⟩))),(10,.sv v21),(11,Ai .i64 i15),(12,.lit (.pointer (some ⟨b17,0,none⟩))),(13,Ai .i64 j23),(14,.lit (.pointer (some ⟨b25,0,none⟩))),(15,Ai .i64 q29)]:Fr)) (fun ((xs28,q29):((List Symbol)×Int)) (v27:Value)=>([.own 51 cSymbol v27 xs28,.box b25 [Ab (decide ((iand .i64 j23 1)=1)),.sv v27],.own 58 cConjunct v19 xs20,.box b17 [Ai .i64 1,.sv v19],.own 55 cPlace v21 xs22,.box b9 [Ai .i64 (0:Int),.sv v7,.sv v13],.own 61 cRule v13 xs14,.own 9 cS v7 ([(⟨#[83]⟩:ByteArray),(⟨#[88]⟩:ByteArray)]:List ByteArray)]:List Res)) v26 (fun _=>Y) [] ⟨Y,Y,Y,Y,Y,Y,Y,Y,Y,Y,trivial⟩ Y ?_ ?_
      ·rintro ⟨xs28,q29⟩ v27
       refine sSR Y<|sQ (J3 fa61_1 Y) Y<|sQ (W3 (j:=3) g59 Y Y Y) Y<|sQ (W6 (j:=1) g58 z58 Y Y (le_ Y)) Y<|td 0 Y<|Vb 75 1 0 Y Y Y<|Qc 1 1 0 Y Y Y<|sQ (dBS (c:=cConjunct) (xs:=([(⟨decide ((iand .i64 j23 1)=1),xs28⟩:Conjunct)]:List Conjunct)) Try.underlying59 z58 mb (.c Y cAgg .nil) Y) Y<|V5 fun h34=>sAp (j:=2) Try.underlying59 mb Y Y Y Y h34 Y Y fun v35=>sQ (J3 fa61_1 Y) Y<|L7 (j:=3) z59 Y Y Y (cOne oSv) ⟨oSv,trivial⟩ Y (le_ Y)<|j0<|y4 Y<|sM Y Y<|sM Y Y<|sQ (L5 Y Y) Y<|sM Y Y<|sQ (m5 (az:=[Ai .i64 (0:Int),Ai .i64 (0:Int),Ai .i64 (0:Int)]) Try.underlying55 zv55 pl55 (fun _ _=>.cons Y (.cons Y (.cons Y .nil))) (.c Y Y (cOne (oLit Y)) Y Y (.c Y Y (cOne (oLit Y)) Y Y .nil))) Y<|sQ (dBS (c:=cPlace) (xs:=([(⟨IntKind.wrap .i64 (i15+1),j23,(0:Int)⟩:Place)]:List Place)) Try.underlying26 z55 k7 (.c Y cAgg .nil) Y) Y<|V5 fun h36=>sAp (j:=4) Try.underlying26 k7 Y Y Y Y h36 Y Y fun v37=>sA Y Y<|j0<|Q2<|y4 Y<|sM Y Y<|sQ (L5 Y Y) Y<|sA Y Y<|j0<|Q3 (again1 (xs20++([(⟨decide ((iand .i64 j23 1)=1),xs28⟩:Conjunct)]:List Conjunct),xs22++([(⟨IntKind.wrap .i64 (i15+1),j23,(0:Int)⟩:Place)]:List Place),IntKind.wrap .i64 (j23+1)) (v35,v37)) [2,2,2,2,2,2] ⟨Y,Y,Y,Y,Y,Y,Y,Y,trivial⟩ Y
      ·rintro m ⟨xs28,q29⟩ v27 again2 out2
       refine W0<|sSR Y<|sM Y Y<|sM Y Y<|sM Y Y<|V5 fun h30=>sQ (yg Y Y h30) Y<|sQ (vd Y Y) Y<|sQ (dLt Y Y) Y<|j0<|P3 Y (fun h31=>?_) (fun h31=>?_)
       ·refine P1<|W0<|J6<|y4 Y<|sQ (J3 fa58_1 Y) Y<|sQ (W3 (j:=1) g56 Y Y Y) Y<|sM Y Y<|sM Y Y<|sM Y Y<|sQ (L5 Y Y) Y<|sQ (m5 (az:=[Ai .i64 (0:Int),Ai .i64 (0:Int),Ai .i64 (0:Int)]) Try.underlying51 zv51 pl51 (fun _ _=>.cons Y (.cons Y (.cons Y .nil))) (.c Y Y (cOne (oLit Y)) Y Y (.c Y Y (cOne (oLit Y)) Y Y (.c Y Y (cOne (oLit Y)) Y Y .nil)))) Y<|sQ (dBS (c:=cSymbol) (xs:=([(⟨(-1),i15,IntKind.wrap .i64 (i15+q29)⟩:Symbol)]:List Symbol)) Try.underlying56 z51 La (.c Y cAgg .nil) Y) Y<|V5 fun h32=>sAp (j:=0) Try.underlying56 La Y Y Y Y h32 Y Y fun v33=>sQ (J3 fa58_1 Y) Y<|L7 (j:=1) z56 Y Y Y (cOne oSv) ⟨oSv,trivial⟩ Y (le_ Y)<|j0<|Q2<|y4 Y<|sM Y Y<|sQ (L5 Y Y) Y<|sA Y Y<|j0<|Q3 (again2 (xs28++([(⟨(-1),i15,IntKind.wrap .i64 (i15+q29)⟩:Symbol)]:List Symbol),IntKind.wrap .i64 (q29+1)) v33) [0,0,0,0,0,0,0,0] ⟨Y,Y,Y,Y,Y,Y,Y,Y,Y,Y,trivial⟩ Y
       ·refine W4 Y<|Q3 (out2 (xs28,q29) v27) [0,0,0,0,0,0,0,0] ⟨Y,Y,Y,Y,Y,Y,Y,Y,Y,Y,trivial⟩ Y
     ·refine W4 Y<|Q3 (out1 (xs20,xs22,j23) (v19,v21)) [0,0,0,0,0,0] ⟨Y,Y,Y,Y,Y,Y,Y,Y,trivial⟩ Y
   ·refine W4 Y<|Q3 (out0 (xs12,xs14,i15) (v11,v13)) [0,0,0,0] ⟨Y,Y,Y,Y,Y,Y,trivial⟩ Y
set_option linter.unusedSimpArgs false
def RuleBd (r:Rule):Prop:=r.Conj.length≤8∧∀ c ∈ r.Conj,c.Seq.length≤64
def Bd (g:Grammar):Prop:=g.Rules.length≤256∧∀ r ∈ g.Rules,RuleBd r
def runL {τ ρ α:Type} (B:τ→α→τ ⊕ ρ):τ→List α→τ ⊕ ρ
 | s,[]=>.inl s
 | s,x::xs=>match B s x with | .inl s'=>runL B s' xs | .inr r=>.inr r
theorem scanL {τ ρ α:Type} [Inhabited α] (xs:List α) (L:Nat→τ×Int→Option ((τ×Int) ⊕ ρ)) (B:τ→α→τ ⊕ ρ) (I:Nat→τ→Prop)
  (step:∀ m s i,i<xs.length→I i s→L (m+1) (s,(i:Int))=match B s (rd xs (i:Int)) with | .inr r=>some (.inr r) | .inl s'=>L m (s',(i:Int)+1))
  (stop:∀ m s,L (m+1) (s,(xs.length:Int))=some (.inl (s,(xs.length:Int)))) (hI:∀ s i,i<xs.length→I i s→∀ s',B s (rd xs (i:Int)) = .inl s'→I (i+1) s')
  (m:Nat) (hm:xs.length<m) (s:τ) (h0:I 0 s):L m (s,0)=some (match runL B s xs with | .inl s'=>.inl (s',(xs.length:Int)) | .inr r=>.inr r):=by
 have key:∀ k i s m,i+k=xs.length→k<m→I i s→L m (s,(i:Int))=some (match runL B s (xs.drop i) with | .inl s'=>.inl (s',(xs.length:Int)) | .inr r=>.inr r):=by
  intro k
  induction k with
  | zero =>
   intro i s m hi hm h
   obtain ⟨m,rfl⟩:∃ q,m=q+1:=⟨m-1,by omega⟩
   have:i=xs.length:=by omega
   subst this
   rw [stop,List.drop_length];rfl
  | succ k ih =>
   intro i s m hi hm h
   obtain ⟨m,rfl⟩:∃ q,m=q+1:=⟨m-1,by omega⟩
   have hil:i<xs.length:=by omega
   have e:rd xs (i:Int)=xs[i]:=by rw [rd_nat,List.getD_eq_getElem?_getD,List.getElem?_eq_getElem hil];rfl
   have hn:=hI s i hil h
   rw [step m s i hil h,List.drop_eq_getElem_cons hil,runL,← e]
   cases hb:B s (rd xs (i:Int)) with
   | inr r=>rfl
   | inl s'=>simpa using ih (i+1) s' m (by omega) (by omega) (hn s' hb)
 simpa using key xs.length 0 s m (by omega) hm h0
def letterP (c:Int):Prop:=(65≤c∧c≤90)∨(97≤c∧c≤122)∨c=95
def moreP (c:Int):Prop:=letterP c∨(48≤c∧c≤57)
def nameP (s:ByteArray):Prop:=1≤s.size∧s.size≤32∧s≠(⟨#[115,116,97,114,116]⟩:ByteArray)∧letterP (bt s 0)∧∀ i:Nat,i<s.size→moreP (bt s (i:Int))
theorem letter_spec (K:Nat) (c:Int):∃ b,G9 K c=some b∧(b=true↔letterP c):=by
 unfold G9 letterP
 repeat' split
 all_goals refine ⟨_,rfl,?_⟩
 all_goals first | simp only [true_iff,decide_eq_true_eq] | skip
 all_goals omega
theorem more_spec (K:Nat) (c:Int):∃ b,vb K c=some b∧(b=true↔moreP c):=by
 obtain ⟨b,hb,hl⟩:=letter_spec K c
 unfold vb moreP
 rw [hb,Option.bind_some]
 repeat' split
 all_goals refine ⟨_,rfl,?_⟩
 all_goals simp only [true_iff,decide_eq_true_eq,Bool.false_eq_true,false_iff] at *
 all_goals rw [← hl]
 all_goals simp_all
 all_goals omega
theorem rletter_spec (K:Nat) (c:Int):∃ b,y7 K c=some b∧(b=true↔letterP c):=by
 unfold y7 letterP
 repeat' split
 all_goals refine ⟨_,rfl,?_⟩
 all_goals first | simp only [true_iff,decide_eq_true_eq] | skip
 all_goals omega
theorem rdigit_spec (K:Nat) (c:Int):∃ b,Q8 K c=some b∧(b=true↔48≤c∧c≤57):=by
 unfold Q8
 repeat' split
 all_goals refine ⟨_,rfl,?_⟩
 all_goals simp only [decide_eq_true_eq,Bool.false_eq_true,false_iff]
 all_goals omega
theorem ask_all {n K:Nat} {L:Nat→Int→Option (Int ⊕ Bool)} {p:Nat→Prop} (hn:n<K) (step:∀ m i,i<n→(p i∧L (m+1) (i:Int)=L m ((i:Int)+1))∨(¬ p i∧L (m+1) (i:Int)=some (.inr false)))
  (stop:∀ m,L (m+1) (n:Int)=some (.inl (n:Int))):(L K 0=some (.inl (n:Int))∧∀ i,i<n→p i)∨(L K 0=some (.inr false)∧¬ ∀ i,i<n→p i):=by
 have key:∀ k i m,i+k=n→k<m→(L m (i:Int)=some (.inl (n:Int))∧∀ j,i≤j→j<n→p j)∨(L m (i:Int)=some (.inr false)∧¬ ∀ j,i≤j→j<n→p j):=by
  intro k
  induction k with
  | zero =>
   intro i m hi hm
   obtain ⟨m,rfl⟩:∃ q,m=q+1:=⟨m-1,by omega⟩
   have:i=n:=by omega
   subst this
   exact .inl ⟨stop m,fun j h1 h2=>by omega⟩
  | succ k ih =>
   intro i m hi hm
   obtain ⟨m,rfl⟩:∃ q,m=q+1:=⟨m-1,by omega⟩
   rcases step m i (by omega) with ⟨hp,he⟩ | ⟨hp,he⟩
   ·rw [he]
    have:=ih (i+1) m (by omega) (by omega)
    rw [show ((i+1:Nat):Int)=(i:Int)+1 by omega] at this
    rcases this with ⟨h1,h2⟩ | ⟨h1,h2⟩
    ·refine .inl ⟨h1,fun j q1 q2=>?_⟩
     rcases Nat.eq_or_lt_of_le q1 with rfl | q1
     ·exact hp
     ·exact h2 j q1 q2
    ·exact .inr ⟨h1,fun h=>h2 fun j q1 q2=>h j (by omega) q2⟩
   ·exact .inr ⟨he,fun h=>hp (h i (Nat.le_refl _) (by omega))⟩
 have:=key n 0 K (by omega) hn
 rw [show ((0:Nat):Int)=0 from rfl] at this
 rcases this with ⟨h1,h2⟩ | ⟨h1,h2⟩
 ·exact .inl ⟨h1,fun i hi=>h2 i (Nat.zero_le _) hi⟩
 ·exact .inr ⟨h1,fun h=>h2 fun j _ hj=>h j hj⟩
theorem lexName_spec (K:Nat) (hK:1000≤K) (s:ByteArray):∃ b,y8 K s=some b∧(b=true↔nameP s):=by
 unfold y8 nameP
 by_cases h1:s=(⟨#[]⟩:ByteArray)
 ·rw [if_pos h1];refine ⟨_,rfl,?_⟩
  subst h1
  simp only [Bool.false_eq_true,false_iff]
  exact fun h=>absurd h.1 (by decide)
 rw [if_neg h1]
 by_cases h2:32<(s.size:Int)
 ·rw [if_pos h2];exact ⟨_,rfl,by simp;omega⟩
 rw [if_neg h2]
 have h0:0<(s.size:Int):=by
  rcases Nat.eq_zero_or_pos s.size with h | h
  ·exfalso;apply h1
   apply ByteArray.ext
   exact Array.eq_empty_of_size_eq_zero h
  ·omega
 by_cases h3:s=(⟨#[115,116,97,114,116]⟩:ByteArray)
 ·rw [if_pos h3];exact ⟨_,rfl,by simp [h3]⟩
 rw [if_neg h3,if_pos h0]
 obtain ⟨b,hb,hl⟩:=letter_spec K (bt s 0)
 rw [hb,Option.bind_some]
 cases b with
 | false=>exact ⟨false,rfl,by simp only [Bool.false_eq_true,false_iff];exact fun h=>absurd (hl.2 h.2.2.2.1) (by decide)⟩
 | true =>
  rw [if_neg (by decide)]
  rcases ask_all (n:=s.size) (K:=K) (L:=y8.l0 K s) (p:=fun i=>moreP (bt s (i:Int))) (by omega) (fun m i hi=>by
   obtain ⟨q,hq,hm⟩:=more_spec K (bt s (i:Int))
   simp only [y8.l0]
   rw [if_pos (by omega),if_pos (Int.natCast_nonneg i),hq,Option.bind_some,wr (a:=(i:Int)+1) (by omega) (by omega)]
   cases q with
   | true=>exact .inl ⟨hm.1 rfl,rfl⟩
   | false=>exact .inr ⟨fun h=>absurd (hm.2 h) (by decide),rfl⟩) (fun m=>by simp only [y8.l0];rw [if_neg (by omega)]) with ⟨h4,h5⟩ | ⟨h4,h5⟩
  ·rw [h4];exact ⟨true,rfl,by simp only [true_iff];exact ⟨by omega,by omega,h3,hl.1 rfl,h5⟩⟩
  ·rw [h4];exact ⟨false,rfl,by simp only [Bool.false_eq_true,false_iff];exact fun h=>h5 h.2.2.2.2⟩
theorem rName_spec (K:Nat) (hK:1000≤K) (s:ByteArray):∃ b,P4 K s=some b∧(b=true↔nameP s):=by
 unfold P4 nameP
 by_cases h1:(s.size:Int)<1
 ·rw [if_pos h1];exact ⟨_,rfl,by simp;omega⟩
 rw [if_neg h1]
 by_cases h2:32<(s.size:Int)
 ·rw [if_pos h2];exact ⟨_,rfl,by simp;omega⟩
 rw [if_neg h2]
 have h0:0<(s.size:Int):=by omega
 by_cases h3:s=(⟨#[115,116,97,114,116]⟩:ByteArray)
 ·rw [if_pos h3];exact ⟨_,rfl,by simp [h3]⟩
 rw [if_neg h3,if_pos h0]
 obtain ⟨b,hb,hl⟩:=rletter_spec K (bt s 0)
 rw [hb,Option.bind_some]
 cases b with
 | false=>exact ⟨false,rfl,by simp only [Bool.false_eq_true,false_iff];exact fun h=>absurd (hl.2 h.2.2.2.1) (by decide)⟩
 | true =>
  rw [if_neg (by decide)]
  rcases ask_all (n:=s.size) (K:=K) (L:=P4.l0 K s) (p:=fun i=>moreP (bt s (i:Int))) (by omega) (fun m i hi=>by
   obtain ⟨q,hq,hm⟩:=rletter_spec K (bt s (i:Int))
   obtain ⟨q2,hq2,hm2⟩:=rdigit_spec K (bt s (i:Int))
   simp only [P4.l0]
   rw [if_pos (by omega),if_pos (Int.natCast_nonneg i),hq,Option.bind_some,wr (a:=(i:Int)+1) (by omega) (by omega)]
   unfold moreP
   cases q with
   | true=>exact .inl ⟨.inl (hm.1 rfl),rfl⟩
   | false =>
    simp only [Bool.not_false,if_true,hq2,Option.bind_some]
    cases q2 with
    | true=>exact .inl ⟨.inr (hm2.1 rfl),rfl⟩
    | false=>exact .inr ⟨fun h=>h.elim (fun h=>absurd (hm.2 h) (by decide)) (fun h=>absurd (hm2.2 h) (by decide)),rfl⟩) (fun m=>by simp only [P4.l0];rw [if_neg (by omega)]) with ⟨h4,h5⟩ | ⟨h4,h5⟩
  ·rw [h4];exact ⟨true,rfl,by simp only [true_iff];exact ⟨by omega,by omega,h3,hl.1 rfl,h5⟩⟩
  ·rw [h4];exact ⟨false,rfl,by simp only [Bool.false_eq_true,false_iff];exact fun h=>h5 h.2.2.2.2⟩
def namesP (ns:List ByteArray):Prop:=1≤ns.length∧ns.length≤64∧(∀ s ∈ ns,nameP s)∧ns.Nodup
theorem mget_cons {κ ν:Type} [DecidableEq κ] {p:κ×ν} {es:List (κ×ν)} {q:κ}:mget (p::es) q=if p.1=q then some p.2 else mget es q:=by
 unfold mget
 rw [List.find?_cons]
 by_cases h:p.1=q <;> simp [h]
theorem mgetD_mput {κ:Type} [DecidableEq κ] {es:List (κ×Bool)} {k q:κ}:mgetD false (mput es k true) q=true↔q=k∨mgetD false es q=true:=by
 unfold mgetD
 induction es with
 | nil =>
  rw [mput,mget_cons]
  by_cases h:k=q
  ·simp [h]
  ·simp [h,Ne.symm h,mget]
 | cons p es ih =>
  rw [mput]
  split
  ·rename_i h
   rw [mget_cons,mget_cons,h]
   by_cases h2:k=q
   ·simp [h2]
   ·simp [h2,Ne.symm h2]
  ·rename_i h
   rw [mget_cons,mget_cons]
   by_cases h2:p.1=q
   ·simp only [if_pos h2,Option.getD_some]
    refine ⟨.inr,fun h3=>h3.elim (fun h4=>absurd (h2.trans h4) h) id⟩
   ·simp only [if_neg h2]
    exact ih
open Classical in
theorem names_run (es:List (ByteArray×Bool)):∀ ns:List ByteArray,((∃ es',runL (fun es s=>if nameP s then if mgetD false es s=true then .inr false else .inl (mput es s true) else .inr false) es ns = .inl es')∧(∀ s ∈ ns,nameP s)∧ns.Nodup∧∀ s ∈ ns,¬ mgetD false es s=true)∨(runL (fun es s=>if nameP s then if mgetD false es s=true then .inr false else .inl (mput es s true) else .inr false) es ns=(.inr false:List (ByteArray×Bool) ⊕ Bool)∧¬ ((∀ s ∈ ns,nameP s)∧ns.Nodup∧∀ s ∈ ns,¬ mgetD false es s=true))
 | []=>.inl ⟨⟨es,rfl⟩,by simp,List.nodup_nil,by simp⟩
 | s::ns=>by
  unfold runL
  by_cases h1:nameP s
  ·by_cases h2:mgetD false es s=true
   ·simp only [if_pos h1,if_pos h2]
    exact .inr ⟨trivial,fun h=>h.2.2 s (.head _) h2⟩
   ·simp only [if_pos h1,if_neg h2]
    have hm:∀ q,mgetD false (mput es s true) q=true↔q=s∨mgetD false es q=true:=fun q=>mgetD_mput
    rcases names_run (mput es s true) ns with ⟨h3,h4,h5,h6⟩ | ⟨h3,h4⟩
    ·refine .inl ⟨h3,fun q hq=>?_,List.nodup_cons.2 ⟨fun hs=>h6 s hs ((hm s).2 (.inl rfl)),h5⟩,fun q hq=>?_⟩
     ·rcases List.mem_cons.1 hq with rfl | hq
      ·exact h1
      ·exact h4 q hq
     ·rcases List.mem_cons.1 hq with rfl | hq
      ·exact h2
      ·exact fun h=>h6 q hq ((hm q).2 (.inr h))
    ·refine .inr ⟨h3,fun ⟨a1,a2,a3⟩=>h4 ⟨fun q hq=>a1 q (.tail _ hq),(List.nodup_cons.1 a2).2,fun q hq h=>?_⟩⟩
     rcases (hm q).1 h with rfl | h
     ·exact (List.nodup_cons.1 a2).1 hq
     ·exact a3 q (.tail _ hq) h
  ·simp only [if_neg h1]
   exact .inr ⟨trivial,fun h=>h1 (h.1 s (.head _))⟩
open Classical in
theorem names_spec (K:Nat) (hK:1000≤K) (ns:List ByteArray):∃ b,c7 K ns=some b∧(b=true↔namesP ns):=by
 unfold c7 namesP
 split
 ·exact ⟨_,rfl,by simp;omega⟩
 split
 ·exact ⟨_,rfl,by simp;omega⟩
 rename_i h1 h2
 have hs:=scanL ns (c7.l0 K ns) (fun es s=>if nameP s then if mgetD false es s=true then .inr false else .inl (mput es s true) else .inr false) (fun _ _=>True) (fun m s i hi _=>by
  obtain ⟨b,hb,hp⟩:=lexName_spec K hK (rd ns (i:Int))
  simp only [c7.l0]
  rw [if_pos (by omega),if_pos (Int.natCast_nonneg i),hb,Option.bind_some,wr (a:=(i:Int)+1) (by omega) (by omega)]
  cases b with
  | false=>rw [if_pos (by decide),if_neg (fun h=>absurd (hp.2 h) (by decide))]
  | true =>
   rw [if_neg (by decide),if_pos (hp.1 rfl)]
   split <;> rfl) (fun m s=>by simp only [c7.l0];rw [if_neg (by omega)]) (fun _ _ _ _ _ _=>trivial) K (by omega) [] trivial
 rw [hs]
 rcases names_run [] ns with ⟨⟨es',h3⟩,h4,h5,h6⟩ | ⟨h3,h4⟩
 ·rw [h3];exact ⟨true,rfl,by simp only [true_iff];exact ⟨by omega,by omega,h4,h5⟩⟩
 ·rw [h3];exact ⟨false,rfl,by simp only [Bool.false_eq_true,false_iff];exact fun h=>h4 ⟨h.2.2.1,h.2.2.2,fun s _ h=>by simp [mgetD,mget] at h⟩⟩
theorem find_spec (K:Nat) (hK:1000≤K) (ns:List ByteArray) (hl:ns.length≤64) (s:ByteArray):P5 K ns s=some (match firstOf (fun i=>if rd ns (i:Int)=s then some (i:Int) else none) ns.length 0 with | some i=>i | none=>-1):=by
 have:=scan ns.length (P5.l0 K ns s) (fun i=>if rd ns (i:Int)=s then some (i:Int) else none) (fun m i hi=>by
  simp only [P5.l0]
  rw [if_pos (by omega),if_pos (Int.natCast_nonneg i),wr (a:=(i:Int)+1) (by omega) (by omega)]
  split <;> rfl) (fun m=>by simp only [P5.l0];rw [if_neg (by omega)]) ns.length 0 K (by omega) (by omega)
 rw [show ((0:Nat):Int)=0 from rfl] at this
 unfold P5
 rw [this]
 generalize firstOf _ _ _=o
 cases o <;> rfl
theorem find_at (K:Nat) (hK:1000≤K) (ns:List ByteArray) (hl:ns.length≤64) (i:Nat) (hi:i<ns.length):∃ q,P5 K ns (rd ns (i:Int))=some q∧(q=(i:Int)↔∀ j:Nat,j<i→rd ns (j:Int)≠rd ns (i:Int)):=by
 refine ⟨_,find_spec K hK ns hl _,?_⟩
 cases hf:firstOf (fun k=>if rd ns (k:Int)=rd ns (i:Int) then some (k:Int) else none) ns.length 0 with
 | none =>
  have:=firstOf_none.1 hf i (by omega) (by omega)
  rw [if_pos rfl] at this;cases this
 | some r =>
  obtain ⟨j,_,h2,h3,h4⟩:=firstOf_some hf
  split at h3
  ·rename_i he
   cases h3
   simp only
   constructor
   ·intro e k hk hke
    have e:j=i:=by omega
    subst e
    have:=h4 k (by omega) hk
    rw [if_pos hke] at this;cases this
   ·intro h
    rcases Nat.lt_trichotomy j i with hlt | rfl | hlt
    ·exact absurd he (h j hlt)
    ·rfl
    ·have:=h4 i (by omega) hlt
     rw [if_pos rfl] at this;cases this
  ·cases h3
theorem nodup_rd (ns:List ByteArray):ns.Nodup↔∀ i,i<ns.length→∀ j:Nat,j<i→rd ns (j:Int)≠rd ns (i:Int):=by
 have e:∀ i (h:i<ns.length),rd ns (i:Int)=ns[i]:=fun i h=>by rw [rd_nat,List.getD_eq_getElem?_getD,List.getElem?_eq_getElem h];rfl
 rw [List.Nodup,List.pairwise_iff_getElem]
 constructor
 ·intro h i hi j hj
  rw [e i hi,e j (by omega)]
  exact h j i (by omega) hi hj
 ·intro h i j hi hj hij
  have:=h j hj i hij
  rwa [e i hi,e j hj] at this
theorem rnames_spec (K:Nat) (hK:1000≤K) (g:Grammar) (h1:1≤g.Names.length) (h2:g.Names.length≤64):(W1.l0 K g K 0=some (.inl (g.Names.length:Int))∧namesP g.Names)∨(W1.l0 K g K 0=some (.inr false)∧¬ namesP g.Names):=by
 rcases ask_all (n:=g.Names.length) (K:=K) (L:=W1.l0 K g) (p:=fun i=>nameP (rd g.Names (i:Int))∧∀ j:Nat,j<i→rd g.Names (j:Int)≠rd g.Names (i:Int)) (by omega) (fun m i hi=>by
  obtain ⟨b,hb,hp⟩:=rName_spec K hK (rd g.Names (i:Int))
  obtain ⟨q,hq,hf⟩:=find_at K hK g.Names h2 i hi
  simp only [W1.l0]
  rw [if_pos (by omega),if_pos (Int.natCast_nonneg i),hb,Option.bind_some,wr (a:=(i:Int)+1) (by omega) (by omega)]
  cases b with
  | false=>exact .inr ⟨fun h=>absurd (hp.2 h.1) (by decide),rfl⟩
  | true =>
   rw [if_neg (by decide),hq,Option.bind_some]
   by_cases he:q=(i:Int)
   ·rw [if_neg (fun h=>h he)];exact .inl ⟨⟨hp.1 rfl,hf.1 he⟩,rfl⟩
   ·rw [if_pos he];exact .inr ⟨fun h=>he (hf.2 h.2),rfl⟩) (fun m=>by simp only [W1.l0];rw [if_neg (by omega)]) with ⟨h4,h5⟩ | ⟨h4,h5⟩
 ·refine .inl ⟨h4,h1,h2,fun s hs=>?_,(nodup_rd _).2 fun i hi=>(h5 i hi).2⟩
  obtain ⟨i,hi,rfl⟩:=List.getElem_of_mem hs
  have:=(h5 i hi).1
  rwa [rd_nat,List.getD_eq_getElem?_getD,List.getElem?_eq_getElem hi] at this
 ·exact .inr ⟨h4,fun h=>h5 fun i hi=>⟨h.2.2.1 _ (rd_mem (Int.natCast_nonneg i) (by omega)),(nodup_rd _).1 h.2.2.2 i hi⟩⟩
def symP (s:Symbol) (n:Int):Prop:=(s.Name = -1∧0≤s.Lo∧s.Lo≤s.Hi∧s.Hi≤255)∨(0≤s.Name∧s.Name<n∧s.Lo=0∧s.Hi=0)
theorem symbol_spec (K:Nat) (s:Symbol) (n:Int):∃ b,J9 K s n=some b∧(b=true↔symP s n):=by
 unfold J9 symP
 repeat' split
 all_goals refine ⟨_,rfl,?_⟩
 all_goals simp only [decide_eq_true_eq,Bool.false_eq_true,false_iff]
 all_goals omega
theorem rsymbol_spec (K:Nat) (s:Symbol) (n:Int):∃ b,w7 K s n=some b∧(b=true↔symP s n):=by
 unfold w7 symP
 repeat' split
 all_goals refine ⟨_,rfl,?_⟩
 all_goals simp only [decide_eq_true_eq,Bool.false_eq_true,false_iff]
 all_goals omega
instance (s:Symbol) (n:Int):Decidable (symP s n):=by unfold symP;infer_instance
def conjP (n:Int) (c:Conjunct):Prop:=c.Seq.length≤64∧∀ s ∈ c.Seq,symP s n
instance (n:Int) (c:Conjunct):Decidable (conjP n c):=by unfold conjP;infer_instance
def ruleP (n:Int) (r:Rule):Prop:=1≤r.Conj.length∧r.Conj.length≤8∧∀ c ∈ r.Conj,conjP n c
instance (n:Int) (r:Rule):Decidable (ruleP n r):=by unfold ruleP;infer_instance
def sumC:List Conjunct→Nat
 | []=>0
 | c::cs=>c.Seq.length+sumC cs
def sumR (r:Rule):Nat:=sumC r.Conj
theorem all_rd {T:Type} [Inhabited T] {xs:List T} {p:T→Prop}:(∀ i,i<xs.length→p (rd xs (i:Int)))↔∀ x ∈ xs,p x:=by
 constructor
 ·intro h x hx
  obtain ⟨i,hi,rfl⟩:=List.getElem_of_mem hx
  have:=h i hi
  rwa [rd_nat,List.getD_eq_getElem?_getD,List.getElem?_eq_getElem hi] at this
 ·intro h i hi
  exact h _ (rd_mem (Int.natCast_nonneg i) (by omega))
theorem ask_all2 {ρ:Type} {n K:Nat} {L:Nat→Int→Option (Int ⊕ ρ)} {p:Nat→Prop} {no:ρ} (hn:n<K) (step:∀ m i,i<n→(p i∧L (m+1) (i:Int)=L m ((i:Int)+1))∨(¬ p i∧L (m+1) (i:Int)=some (.inr no)))
  (stop:∀ m,L (m+1) (n:Int)=some (.inl (n:Int))):(L K 0=some (.inl (n:Int))∧∀ i,i<n→p i)∨(L K 0=some (.inr no)∧¬ ∀ i,i<n→p i):=by
 have key:∀ k i m,i+k=n→k<m→(L m (i:Int)=some (.inl (n:Int))∧∀ j,i≤j→j<n→p j)∨(L m (i:Int)=some (.inr no)∧¬ ∀ j,i≤j→j<n→p j):=by
  intro k
  induction k with
  | zero =>
   intro i m hi hm
   obtain ⟨m,rfl⟩:∃ q,m=q+1:=⟨m-1,by omega⟩
   have:i=n:=by omega
   subst this
   exact .inl ⟨stop m,fun j h1 h2=>by omega⟩
  | succ k ih =>
   intro i m hi hm
   obtain ⟨m,rfl⟩:∃ q,m=q+1:=⟨m-1,by omega⟩
   rcases step m i (by omega) with ⟨hp,he⟩ | ⟨hp,he⟩
   ·rw [he]
    have:=ih (i+1) m (by omega) (by omega)
    rw [show ((i+1:Nat):Int)=(i:Int)+1 by omega] at this
    rcases this with ⟨h1,h2⟩ | ⟨h1,h2⟩
    ·refine .inl ⟨h1,fun j q1 q2=>?_⟩
     rcases Nat.eq_or_lt_of_le q1 with rfl | q1
     ·exact hp
     ·exact h2 j q1 q2
    ·exact .inr ⟨h1,fun h=>h2 fun j q1 q2=>h j (by omega) q2⟩
   ·exact .inr ⟨he,fun h=>hp (h i (Nat.le_refl _) (by omega))⟩
 have:=key n 0 K (by omega) hn
 rw [show ((0:Nat):Int)=0 from rfl] at this
 rcases this with ⟨h1,h2⟩ | ⟨h1,h2⟩
 ·exact .inl ⟨h1,fun i hi=>h2 i (Nat.zero_le _) hi⟩
 ·exact .inr ⟨h1,fun h=>h2 fun j _ hj=>h j hj⟩
def ruleB (n:Int) (s:Int) (c:Conjunct):Int ⊕ (Int×Bool):=if conjP n c then .inl (s+(c.Seq.length:Int)) else .inr (0,false)
theorem ruleB_run (n:Int):∀ (cs:List Conjunct) (s:Int),(runL (ruleB n) s cs = .inl (s+(sumC cs:Int))∧∀ c ∈ cs,conjP n c)∨(runL (ruleB n) s cs = .inr (0,false)∧¬ ∀ c ∈ cs,conjP n c)
 | [],s=>.inl ⟨by simp [runL,sumC],by simp⟩
 | c::cs,s=>by
  unfold runL ruleB
  by_cases h:conjP n c
  ·rw [if_pos h]
   rcases ruleB_run n cs (s+(c.Seq.length:Int)) with ⟨h1,h2⟩ | ⟨h1,h2⟩
   ·refine .inl ⟨?_,fun q hq=>?_⟩
    ·show runL (ruleB n) _ cs=_
     rw [h1,sumC];push_cast;rw [Int.add_assoc]
    ·rcases List.mem_cons.1 hq with rfl | hq
     ·exact h
     ·exact h2 q hq
   ·exact .inr ⟨h1,fun h3=>h2 fun q hq=>h3 q (.tail _ hq)⟩
  ·rw [if_neg h];exact .inr ⟨rfl,fun h3=>h (h3 c (.head _))⟩
theorem sumC_le {n:Int}:∀ {cs:List Conjunct},(∀ c ∈ cs,conjP n c)→sumC cs≤64*cs.length
 | [],_=>by simp [sumC]
 | c::cs,h=>by
  have h1:=(h c (.head _)).1
  have h2:=sumC_le (cs:=cs) fun q hq=>h q (.tail _ hq)
  rw [sumC,List.length_cons];omega
theorem rule_spec (K:Nat) (hK:1000≤K) (r:Rule) (n:Int):(w6 K r n=some ((sumR r:Int),true)∧ruleP n r)∨(∃ q,w6 K r n=some (q,false)∧¬ ruleP n r):=by
 unfold w6
 by_cases h1:(r.Conj.length:Int)<1
 ·rw [if_pos h1];exact .inr ⟨_,rfl,fun h=>by have:=h.1;omega⟩
 rw [if_neg h1]
 by_cases h2:8<(r.Conj.length:Int)
 ·rw [if_pos h2];exact .inr ⟨_,rfl,fun h=>by have:=h.2.1;omega⟩
 rw [if_neg h2]
 have hs:=scanL r.Conj (w6.l0 K r n) (ruleB n) (fun i s=>0≤s∧s≤64*i) (fun m s i hi hI=>by
  unfold ruleB
  simp only [w6.l0]
  rw [if_pos (by omega),if_pos (Int.natCast_nonneg i),wr (a:=(i:Int)+1) (by omega) (by omega)]
  by_cases h64:64<((rd r.Conj (i:Int)).Seq.length:Int)
  ·rw [if_pos h64,if_neg (fun h=>by have:=h.1;omega)]
  rw [if_neg h64,wr (by omega) (by omega)]
  rcases ask_all2 (n:=(rd r.Conj (i:Int)).Seq.length) (K:=K) (L:=w6.l1 K r n i) (p:=fun j=>symP (rd (rd r.Conj (i:Int)).Seq (j:Int)) n) (by omega) (fun m j hj=>by
   obtain ⟨b,hb,hp⟩:=symbol_spec K (⟨(rd ((rd r.Conj (i:Int)).Seq) (j:Int)).Name,(rd ((rd r.Conj (i:Int)).Seq) (j:Int)).Lo,(rd ((rd r.Conj (i:Int)).Seq) (j:Int)).Hi⟩:Symbol) n
   simp only [w6.l1]
   rw [if_pos (by omega),if_pos (Int.natCast_nonneg j),hb,Option.bind_some,wr (a:=(j:Int)+1) (by omega) (by omega)]
   cases b with
   | true=>exact .inl ⟨hp.1 rfl,rfl⟩
   | false=>exact .inr ⟨fun h=>absurd (hp.2 h) (by decide),rfl⟩) (fun m=>by simp only [w6.l1];rw [if_neg (by omega)]) with ⟨h4,h5⟩ | ⟨h4,h5⟩
  ·rw [h4,if_pos ⟨by omega,all_rd.1 h5⟩];rfl
  ·rw [h4,if_neg (fun h=>h5 (all_rd.2 h.2))];rfl) (fun m s=>by simp only [w6.l0];rw [if_neg (by omega)]) (fun s i hi hI s' h=>by
   unfold ruleB at h
   split at h
   ·rename_i hc
    cases h
    have:=hc.1
    exact ⟨by omega,by push_cast;omega⟩
   ·cases h) K (by omega) 0 ⟨by omega,by omega⟩
 rw [hs]
 rcases ruleB_run n r.Conj 0 with ⟨h4,h5⟩ | ⟨h4,h5⟩
 ·rw [h4];exact .inl ⟨by simp only [brk,Option.bind_some,Int.zero_add];rfl,by omega,by omega,h5⟩
 ·rw [h4];exact .inr ⟨0,rfl,fun h=>h5 h.2.2⟩
theorem rrule_spec (K:Nat) (hK:1000≤K) (r:Rule) (n:Int):(M2 K r n=some ((sumR r:Int),true)∧ruleP n r)∨(∃ q,M2 K r n=some (q,false)∧¬ ruleP n r):=by
 unfold M2
 by_cases h1:(r.Conj.length:Int)<1
 ·rw [if_pos h1];exact .inr ⟨_,rfl,fun h=>by have:=h.1;omega⟩
 rw [if_neg h1]
 by_cases h2:8<(r.Conj.length:Int)
 ·rw [if_pos h2];exact .inr ⟨_,rfl,fun h=>by have:=h.2.1;omega⟩
 rw [if_neg h2]
 have hs:=scanL r.Conj (M2.l0 K r n) (ruleB n) (fun i s=>0≤s∧s≤64*i) (fun m s i hi hI=>by
  unfold ruleB
  simp only [M2.l0]
  rw [if_pos (by omega),if_pos (Int.natCast_nonneg i),wr (a:=(i:Int)+1) (by omega) (by omega)]
  by_cases h64:64<((rd r.Conj (i:Int)).Seq.length:Int)
  ·rw [if_pos h64,if_neg (fun h=>by have:=h.1;omega)]
  rw [if_neg h64,wr (by omega) (by omega)]
  rcases ask_all2 (n:=(rd r.Conj (i:Int)).Seq.length) (K:=K) (L:=M2.l1 K r n i) (p:=fun j=>symP (rd (rd r.Conj (i:Int)).Seq (j:Int)) n) (by omega) (fun m j hj=>by
   obtain ⟨b,hb,hp⟩:=rsymbol_spec K (rd ((rd r.Conj (i:Int)).Seq) (j:Int)) n
   simp only [M2.l1]
   rw [if_pos (by omega),if_pos (Int.natCast_nonneg j),hb,Option.bind_some,wr (a:=(j:Int)+1) (by omega) (by omega)]
   cases b with
   | true=>exact .inl ⟨hp.1 rfl,rfl⟩
   | false=>exact .inr ⟨fun h=>absurd (hp.2 h) (by decide),rfl⟩) (fun m=>by simp only [M2.l1];rw [if_neg (by omega)]) with ⟨h4,h5⟩ | ⟨h4,h5⟩
  ·rw [h4,if_pos ⟨by omega,all_rd.1 h5⟩];rfl
  ·rw [h4,if_neg (fun h=>h5 (all_rd.2 h.2))];rfl) (fun m s=>by simp only [M2.l0];rw [if_neg (by omega)]) (fun s i hi hI s' h=>by
   unfold ruleB at h
   split at h
   ·rename_i hc
    cases h
    have:=hc.1
    exact ⟨by omega,by push_cast;omega⟩
   ·cases h) K (by omega) 0 ⟨by omega,by omega⟩
 rw [hs]
 rcases ruleB_run n r.Conj 0 with ⟨h4,h5⟩ | ⟨h4,h5⟩
 ·rw [h4];exact .inl ⟨by simp only [brk,Option.bind_some,Int.zero_add];rfl,by omega,by omega,h5⟩
 ·rw [h4];exact .inr ⟨0,rfl,fun h=>h5 h.2.2⟩
def chainP (n:Int):Int→List Rule→Prop
 | h,[]=>h=n-1
 | h,r::rs=>ruleP n r∧(r.Head=h∨r.Head=h+1)∧chainP n r.Head rs
def total:List Rule→Nat
 | []=>0
 | r::rs=>sumR r+total rs
def mayP (g:Grammar):Prop:=namesP g.Names∧0≤g.Start∧g.Start<(g.Names.length:Int)∧1≤g.Rules.length∧g.Rules.length≤256∧(rd g.Rules 0).Head=0∧chainP (g.Names.length:Int) (-1) g.Rules∧total g.Rules≤1024
def gB (n:Int) (s:Int×Int) (r:Rule):(Int×Int) ⊕ Bool:=if ruleP n r then if r.Head<s.1 then .inr false else if s.1+1<r.Head then .inr false else if 1024<s.2+(sumR r:Int) then .inr false else .inl (r.Head,s.2+(sumR r:Int)) else .inr false
theorem gB_run (n:Int):∀ (rs:List Rule) (s:Int×Int),s.2≤1024→((∃ s',runL (gB n) s rs = .inl s'∧(s'.1=n-1↔chainP n s.1 rs))∧s.2+(total rs:Int)≤1024)∨(runL (gB n) s rs = .inr false∧¬ (chainP n s.1 rs∧s.2+(total rs:Int)≤1024))
 | [],s,hs=>.inl ⟨⟨s,rfl,Iff.rfl⟩,by simp [total];omega⟩
 | r::rs,s,hs=>by
  unfold runL gB chainP total
  by_cases h1:ruleP n r
  ·rw [if_pos h1]
   by_cases h2:r.Head<s.1
   ·rw [if_pos h2];exact .inr ⟨rfl,fun h=>by have:=h.1.2.1;omega⟩
   rw [if_neg h2]
   by_cases h3:s.1+1<r.Head
   ·rw [if_pos h3];exact .inr ⟨rfl,fun h=>by have:=h.1.2.1;omega⟩
   rw [if_neg h3]
   by_cases h4:1024<s.2+(sumR r:Int)
   ·rw [if_pos h4];exact .inr ⟨rfl,fun h=>by have:=h.2;push_cast at this;omega⟩
   rw [if_neg h4]
   rcases gB_run n rs (r.Head,s.2+(sumR r:Int)) (by simp only;omega) with ⟨⟨s',h5,h6⟩,h7⟩ | ⟨h5,h6⟩
   ·refine .inl ⟨⟨s',h5,h6.trans ⟨fun h=>⟨h1,by omega,h⟩,fun h=>h.2.2⟩⟩,?_⟩
    simp only at h7;push_cast;omega
   ·refine .inr ⟨h5,fun h=>h6 ⟨h.1.2.2,?_⟩⟩
    have:=h.2;push_cast at this;simp only;omega
  ·rw [if_neg h1];exact .inr ⟨rfl,fun h=>h1 h.1.1⟩
theorem sumR_le {n:Int} {r:Rule} (h:ruleP n r):sumR r≤512:=by
 have:=sumC_le h.2.2
 have:=h.2.1
 unfold sumR;omega
theorem gMay_spec (K:Nat) (hK:1000≤K) (g:Grammar):∃ b,V6 K g=some b∧(b=true↔mayP g):=by
 unfold V6 mayP
 obtain ⟨b,hb,hn⟩:=names_spec K hK g.Names
 rw [hb,Option.bind_some]
 cases b with
 | false=>exact ⟨_,rfl,by simp only [Bool.false_eq_true,false_iff];exact fun h=>absurd (hn.2 h.1) (by decide)⟩
 | true =>
 rw [if_neg (by decide)]
 have hnm:=hn.1 rfl
 by_cases h1:g.Start<0
 ·rw [if_pos h1];exact ⟨_,rfl,by simp only [Bool.false_eq_true,false_iff];exact fun h=>by have:=h.2.1;omega⟩
 rw [if_neg h1]
 by_cases h2:(g.Names.length:Int)≤g.Start
 ·rw [if_pos h2];exact ⟨_,rfl,by simp only [Bool.false_eq_true,false_iff];exact fun h=>by have:=h.2.2.1;omega⟩
 rw [if_neg h2]
 by_cases h3:(g.Rules.length:Int)<1
 ·rw [if_pos h3];exact ⟨_,rfl,by simp only [Bool.false_eq_true,false_iff];exact fun h=>by have:=h.2.2.2.1;omega⟩
 rw [if_neg h3]
 by_cases h4:256<(g.Rules.length:Int)
 ·rw [if_pos h4];exact ⟨_,rfl,by simp only [Bool.false_eq_true,false_iff];exact fun h=>by have:=h.2.2.2.2.1;omega⟩
 rw [if_neg h4]
 have hs:=scanL (τ:=Int×Int) (ρ:=Bool) g.Rules (fun m s=>(V6.l0 K g m (s.1.1,s.1.2,s.2)).map fun | .inl (a,b,c)=>.inl ((a,b),c) | .inr r=>.inr r) (gB (g.Names.length:Int)) (fun i s=>-1≤s.1∧s.1≤i∧0≤s.2∧s.2≤1024) (fun m s i hi hI=>by
  unfold gB
  simp only [V6.l0]
  rw [if_pos (by omega),if_pos (Int.natCast_nonneg i),wr (a:=(i:Int)+1) (by omega) (by omega)]
  rcases rule_spec K hK (rd g.Rules (i:Int)) (g.Names.length:Int) with ⟨h5,h6⟩ | ⟨q,h5,h6⟩
  ·have:=sumR_le h6
   rw [h5,Option.bind_some,if_pos h6]
   simp only [Bool.not_true,Bool.false_eq_true,if_false]
   rw [wr (a:=s.1+1) (by omega) (by omega),wr (a:=s.2+(sumR (rd g.Rules (i:Int)):Int)) (by omega) (by omega)]
   repeat' split
   all_goals first | rfl | (rename_i h;cases h;done) | skip
   all_goals (rename_i h;cases h;rfl)
  ·rw [h5,Option.bind_some,if_neg h6];rfl) (fun m s=>by simp only [V6.l0];rw [if_neg (by omega)];rfl) (fun s i hi hI s' h=>by
  unfold gB at h
  split at h
  ·split at h
   ·cases h
   ·split at h
    ·cases h
    ·split at h
     ·cases h
     ·cases h;exact ⟨by simp only;omega,by simp only;push_cast;omega,by simp only;omega,by simp only;omega⟩
  ·cases h) K (by omega) (-1,0) ⟨by decide,by decide,by decide,by decide⟩
 have hpos:0<(g.Rules.length:Int):=by omega
 rcases gB_run (g.Names.length:Int) g.Rules (-1,0) (by decide) with ⟨⟨s',h5,h6⟩,h7⟩ | ⟨h5,h6⟩
 ·rw [h5] at hs
  have e:∃ c,V6.l0 K g K (-1,0,0)=some (.inl (s'.1,s'.2,c)):=by
   simp only at hs
   cases hl:V6.l0 K g K (-1,0,0) with
   | none=>rw [hl] at hs;cases hs
   | some x =>
    rw [hl] at hs
    cases x with
    | inl x=>obtain ⟨a,b,c⟩:=x;simp only [Option.map_some,Option.some.injEq,Sum.inl.injEq,Prod.mk.injEq] at hs;exact ⟨c,by rw [← hs.1]⟩
    | inr q=>cases hs
  obtain ⟨c,hl⟩:=e
  rw [hl]
  simp only [brk,Option.bind_some]
  rw [if_pos hpos]
  have hn64:=hnm.2.1
  by_cases h8:(rd g.Rules 0).Head=0
  ·rw [if_pos h8]
   refine ⟨_,rfl,?_⟩
   rw [decide_eq_true_eq,wr (by omega) (by omega),h6]
   simp only at h7
   exact ⟨fun h=>⟨hnm,by omega,by omega,by omega,by omega,h8,h,by omega⟩,fun h=>h.2.2.2.2.2.2.1⟩
  ·rw [if_neg h8]
   exact ⟨_,rfl,by simp only [Bool.false_eq_true,false_iff];exact fun h=>h8 h.2.2.2.2.2.1⟩
 ·rw [h5] at hs
  have e:V6.l0 K g K (-1,0,0)=some (.inr false):=by
   simp only at hs
   cases hl:V6.l0 K g K (-1,0,0) with
   | none=>rw [hl] at hs;cases hs
   | some x =>
    rw [hl] at hs
    cases x with
    | inl x=>cases hs
    | inr q=>cases hs;rfl
  rw [e]
  refine ⟨false,rfl,?_⟩
  simp only [Bool.false_eq_true,false_iff]
  exact fun h=>h6 ⟨h.2.2.2.2.2.2.1,by have:=h.2.2.2.2.2.2.2;simp only;omega⟩
theorem chain_le {n:Int}:∀ {rs:List Rule} {h:Int},chainP n h rs→h≤n-1
 | [],h,hc=>by rw [chainP] at hc;omega
 | r::rs,h,hc=>by
  rw [chainP] at hc
  have:=chain_le hc.2.2
  omega
def rB (n:Int) (s:Int×Int) (r:Rule):(Int×Int) ⊕ Bool:=if r.Head<0 then .inr false else if r.Head≠s.1∧r.Head≠s.1+1 then .inr false else if n≤r.Head then .inr false else if ruleP n r then .inl (r.Head,s.2+(sumR r:Int)) else .inr false
theorem rB_run (n:Int):∀ (rs:List Rule) (s:Int×Int),0≤s.1∨(∃ r rs',rs=r::rs'∧(0≤r.Head∨¬ chainP n s.1 rs))∨rs=[]→(∃ s',runL (rB n) s rs = .inl s'∧(s'.1=n-1↔chainP n s.1 rs)∧s'.2=s.2+(total rs:Int))∨(runL (rB n) s rs = .inr false∧(¬ chainP n s.1 rs))
 | [],s,hs=>.inl ⟨s,rfl,Iff.rfl,by simp [total]⟩
 | r::rs,s,hs=>by
  unfold runL rB total
  by_cases h0:r.Head<0
  ·rw [if_pos h0]
   refine .inr ⟨rfl,fun h=>?_⟩
   rw [chainP] at h
   rcases hs with hs | ⟨r',rs',e,hs | hs⟩ | e
   ·omega
   ·cases e;omega
   ·cases e;exact hs (by rw [chainP];exact h)
   ·cases e
  rw [if_neg h0]
  by_cases h2:r.Head≠s.1∧r.Head≠s.1+1
  ·rw [if_pos h2];exact .inr ⟨rfl,fun h=>by rw [chainP] at h;omega⟩
  rw [if_neg h2]
  by_cases h3:n≤r.Head
  ·rw [if_pos h3];exact .inr ⟨rfl,fun h=>by rw [chainP] at h;have:=chain_le h.2.2;omega⟩
  rw [if_neg h3]
  by_cases h1:ruleP n r
  ·rw [if_pos h1]
   rcases rB_run n rs (r.Head,s.2+(sumR r:Int)) (.inl (by simp only;omega)) with ⟨s',h5,h6,h7⟩ | ⟨h5,h6⟩
   ·refine .inl ⟨s',h5,h6.trans ?_,by rw [h7];simp only;push_cast;omega⟩
    rw [chainP]
    exact ⟨fun h=>⟨h1,by omega,h⟩,fun h=>h.2.2⟩
   ·exact .inr ⟨h5,fun h=>h6 (by rw [chainP] at h;exact h.2.2)⟩
  ·rw [if_neg h1];exact .inr ⟨rfl,fun h=>by rw [chainP] at h;exact h1 h.1⟩
theorem rMay_spec (K:Nat) (hK:1000≤K) (g:Grammar):∃ b,W1 K g=some b∧(b=true↔mayP g):=by
 unfold W1 mayP
 by_cases h1:(g.Names.length:Int)<1
 ·rw [if_pos h1];exact ⟨_,rfl,by simp only [Bool.false_eq_true,false_iff];exact fun h=>by have:=h.1.1;omega⟩
 rw [if_neg h1]
 by_cases h2:64<(g.Names.length:Int)
 ·rw [if_pos h2];exact ⟨_,rfl,by simp only [Bool.false_eq_true,false_iff];exact fun h=>by have:=h.1.2.1;omega⟩
 rw [if_neg h2]
 by_cases h3:g.Start<0
 ·rw [if_pos h3];exact ⟨_,rfl,by simp only [Bool.false_eq_true,false_iff];exact fun h=>by have:=h.2.1;omega⟩
 rw [if_neg h3]
 by_cases h4:(g.Names.length:Int)≤g.Start
 ·rw [if_pos h4];exact ⟨_,rfl,by simp only [Bool.false_eq_true,false_iff];exact fun h=>by have:=h.2.2.1;omega⟩
 rw [if_neg h4]
 by_cases h5:(g.Rules.length:Int)<1
 ·rw [if_pos h5];exact ⟨_,rfl,by simp only [Bool.false_eq_true,false_iff];exact fun h=>by have:=h.2.2.2.1;omega⟩
 rw [if_neg h5]
 by_cases h6:256<(g.Rules.length:Int)
 ·rw [if_pos h6];exact ⟨_,rfl,by simp only [Bool.false_eq_true,false_iff];exact fun h=>by have:=h.2.2.2.2.1;omega⟩
 rw [if_neg h6]
 rcases rnames_spec K hK g (by omega) (by omega) with ⟨h7,h8⟩ | ⟨h7,h8⟩
 rotate_left
 ·rw [h7];exact ⟨false,rfl,by simp only [Bool.false_eq_true,false_iff];exact fun h=>h8 h.1⟩
 rw [h7]
 simp only [brk,Option.bind_some]
 have hs:=scanL (τ:=Int×Int) (ρ:=Bool) g.Rules (fun m s=>(W1.l1 K g m (s.1.1,s.1.2,s.2)).map fun | .inl (a,b,c)=>.inl ((a,b),c) | .inr r=>.inr r) (rB (g.Names.length:Int)) (fun i s=>-1≤s.1∧s.1≤i∧0≤s.2∧s.2≤512*i) (fun m s i hi hI=>by
  unfold rB
  simp only [W1.l1]
  rw [if_pos (by omega),if_pos (Int.natCast_nonneg i),wr (a:=(i:Int)+1) (by omega) (by omega),wr (a:=s.1+1) (by omega) (by omega)]
  by_cases q0:(rd g.Rules (i:Int)).Head<0
  ·rw [if_pos q0,if_pos q0];rfl
  rw [if_neg q0,if_neg q0]
  by_cases q1:(rd g.Rules (i:Int)).Head≠s.1∧(rd g.Rules (i:Int)).Head≠s.1+1
  ·rw [if_pos q1.1,if_pos q1.2,if_pos q1];rfl
  rw [if_neg q1]
  by_cases q2:(g.Names.length:Int)≤(rd g.Rules (i:Int)).Head
  ·rw [if_pos q2,if_pos q2]
   by_cases q3:(rd g.Rules (i:Int)).Head≠s.1
   ·rw [if_pos q3,if_neg (fun h=>q1 ⟨q3,h⟩)];rfl
   ·rw [if_neg q3];rfl
  rw [if_neg q2,if_neg q2]
  have e:(if (rd g.Rules (i:Int)).Head≠s.1 then if (rd g.Rules (i:Int)).Head≠s.1+1 then some (.inr (.inr false)) else some (.inl ()) else some (.inl ()):Option (Unit ⊕ ((Int×Int×Int) ⊕ Bool)))=some (.inl ()):=by
   by_cases q3:(rd g.Rules (i:Int)).Head≠s.1
   ·rw [if_pos q3,if_neg (fun h=>q1 ⟨q3,h⟩)]
   ·rw [if_neg q3]
  rw [e]
  simp only [brk,Option.bind_some]
  rcases rrule_spec K hK (rd g.Rules (i:Int)) (g.Names.length:Int) with ⟨q5,q6⟩ | ⟨q,q5,q6⟩
  ·have:=sumR_le q6
   rw [q5,Option.bind_some,if_pos q6]
   simp only [Bool.not_true,Bool.false_eq_true,if_false]
   rw [wr (a:=s.2+(sumR (rd g.Rules (i:Int)):Int)) (by omega) (by omega)]
  ·rw [q5,Option.bind_some,if_neg q6];rfl) (fun m s=>by simp only [W1.l1];rw [if_neg (by omega)];rfl) (fun s i hi hI s' h=>by
  unfold rB at h
  split at h
  ·cases h
  split at h
  ·cases h
  split at h
  ·cases h
  split at h
  ·rename_i hr
   have:=sumR_le hr
   cases h
   refine ⟨by simp only;omega,by simp only;push_cast;omega,by simp only;omega,by simp only;push_cast;omega⟩
  ·cases h) K (by omega) (-1,0) ⟨by decide,by decide,by decide,by decide⟩
 have hne:∃ r rs',g.Rules=r::rs':=by
  cases hr:g.Rules with
  | nil=>rw [hr] at h5;simp at h5
  | cons r rs'=>exact ⟨r,rs',rfl⟩
 obtain ⟨r0,rs0,hr0⟩:=hne
 have hrd:rd g.Rules 0=r0:=by rw [hr0];rfl
 by_cases hneg:r0.Head<0
 ·have e:runL (rB (g.Names.length:Int)) (-1,0) g.Rules = .inr false:=by rw [hr0];unfold runL rB;rw [if_pos hneg]
  rw [e] at hs
  have e2:W1.l1 K g K (-1,0,0)=some (.inr false):=by
   simp only at hs
   cases hl:W1.l1 K g K (-1,0,0) with
   | none=>rw [hl] at hs;cases hs
   | some x =>
    rw [hl] at hs
    cases x with
    | inl x=>cases hs
    | inr q=>cases hs;rfl
  rw [e2]
  exact ⟨false,rfl,by simp only [Bool.false_eq_true,false_iff];exact fun h=>by have:=h.2.2.2.2.2.1;rw [hrd] at this;omega⟩
 rcases rB_run (g.Names.length:Int) g.Rules (-1,0) (.inr (.inl ⟨r0,rs0,hr0,.inl (by omega)⟩)) with ⟨s',q5,q6,q7⟩ | ⟨q5,q6⟩
 ·rw [q5] at hs
  have e:∃ c,W1.l1 K g K (-1,0,0)=some (.inl (s'.1,s'.2,c)):=by
   simp only at hs
   cases hl:W1.l1 K g K (-1,0,0) with
   | none=>rw [hl] at hs;cases hs
   | some x =>
    rw [hl] at hs
    cases x with
    | inl x=>obtain ⟨a,b,c⟩:=x;simp only [Option.map_some,Option.some.injEq,Sum.inl.injEq,Prod.mk.injEq] at hs;exact ⟨c,by rw [← hs.1]⟩
    | inr q=>cases hs
  obtain ⟨c,hl⟩:=e
  rw [hl]
  simp only [Option.bind_some]
  rw [wr (by omega) (by omega)]
  simp only at q7 q6
  by_cases q8:s'.1=(g.Names.length:Int)-1
  ·rw [if_pos q8]
   refine ⟨_,rfl,?_⟩
   rw [decide_eq_true_eq]
   have hc:=q6.1 q8
   have hz:r0.Head=0:=by
    have:=hc;rw [hr0,chainP] at this;omega
   exact ⟨fun h=>⟨h8,by omega,by omega,by omega,by omega,hrd ▸ hz,hc,by omega⟩,fun h=>by have:=h.2.2.2.2.2.2.2;omega⟩
  ·rw [if_neg q8]
   exact ⟨_,rfl,by simp only [Bool.false_eq_true,false_iff];exact fun h=>q8 (q6.2 h.2.2.2.2.2.2.1)⟩
 ·rw [q5] at hs
  have e:W1.l1 K g K (-1,0,0)=some (.inr false):=by
   simp only at hs
   cases hl:W1.l1 K g K (-1,0,0) with
   | none=>rw [hl] at hs;cases hs
   | some x =>
    rw [hl] at hs
    cases x with
    | inl x=>cases hs
    | inr q=>cases hs;rfl
  rw [e]
  exact ⟨false,rfl,by simp only [Bool.false_eq_true,false_iff];exact fun h=>q6 h.2.2.2.2.2.2.1⟩
end Go.Proofs.Ytgmnohjaciemmaa

