import Derived.Test.YtgmnohjaciemmaaW8
namespace Go.Proofs.Ytgmnohjaciemmaa
open S
set_option linter.unusedVariables false
set_option maxRecDepth 100000
set_option maxHeartbeats 4000000
def J3.l0 (K:Nat):Nat→((List (List Place))×Int)→Option ((List (List Place))×Int)
 | 0,_=>none
 | m+1,(xs39,k40)=>if k40<(xs39.length:Int) then if 0≤k40 then (Q2 K (rd xs39 k40)).bind fun r43=>(some (xs39.set k40.toNat r43)).bind fun y45=>J3.l0 K m (y45,IntKind.wrap .i64 (k40+1)) else none else some (xs39,k40)
def J3 (K:Nat) (g1:Grammar) (ps2:(List Place)):Option Bool:=(M0 K g1).bind fun r3=>(g7 K ps2).bind fun r8=>(Q5 K (⟨r3.Start,r3.Names,r3.Rules⟩:Grammar) (lnt r8)).bind fun r11=>(m3 K g1 ps2).bind fun r14=>(m5 K (⟨r3.Start,r3.Names,r3.Rules⟩:Grammar)).bind fun r16=>(y0 K g1).bind fun r22=>(L0 K r11.1 r14.1).bind fun r25=>if (!r25)=true then some false else (L2 K r11.2).bind fun r28=>if r28≠r14.2 then some false else (W1 K (⟨r16.1.States,r16.1.Moves⟩:Automaton) (⟨r22.1.States,r22.1.Moves⟩:Automaton)).bind fun r31=>if (!r31)=true then some false else (L2 K r16.2).bind fun r34=>if r34≠r22.2 then some false else (Q2 K r11.1).bind fun r37=>(J3.l0 K K (r16.1.States,0)).bind fun (xs39,k40)=>(m5 K (⟨r3.Start,r3.Names,r3.Rules⟩:Grammar)).bind fun r46=>(W1 K (⟨r46.1.States,r46.1.Moves⟩:Automaton) (⟨r22.1.States,r22.1.Moves⟩:Automaton)).bind fun r52=>if r52=true then (W2 K (⟨r3.Start,r3.Names,r3.Rules⟩:Grammar) g1).bind fun r55=>if r55=true then (j7 K r8 ps2).bind fun r58=>if r58=true then (P5 K).bind fun r61=>some r61 else some false else some false else some false
theorem pa (K:Nat) (g1:Grammar) (ps2:(List Place)):Pure Try.prog 3 [.agg (cGrammar.e g1),.fsl cPlace ps2] (J3 K g1 ps2) (fun r=>Ab r):=by
 refine spec_of' Try.func3 rfl Try.ntmps3 (le_ rfl) ?_
 refine sSR Y<|sQ (Q6 (az:=cGrammar.e g1) Y cAgg) Y<|sA Y Y<|sES Y<|sQ (J6 g25 z25 Y (le_ Y)) Y<|y4 fun r3 e4=>gb [] ent9 Y (f9 K _) e4 Y (.s Y .nil) Y fun ⟨v5,v6,us7⟩=>sM Y Y<|y4 fun r8 e9=>sQ (J4 ent10 (J9 K _) e9 (.s Y .nil)) Y<|m6 (az:=[Ai .i64 (0:Int),.lit (.slice none 0 0),.lit (.slice none 0 0)]) al25 (fun _ _=>.cons Y (.cons Y (.cons Y .nil))) Y fun b10=>Q7 (j:=0) z25 Y Y Y cAgg ⟨(oLit Y),oSv,oSv,trivial⟩ Y (le_ Y)<|sA Y Y<|sES Y<|sQ (W6 (j:=0) g25 z25 Y Y (le_ Y)) Y<|sM Y Y<|vf 24 Y<|y4 fun r11 e12=>rc ent11 Y (W8 K _ _) e12 (fun _=>flTup ⟨flSv,flLit,trivial⟩) (fun _=>⟨flOwn (c:=cPlace) (fun _=>⟨flLit,flLit,flLit,trivial⟩),trivial⟩) (.g Y (lendA (.k (.o 1 Y (.x (lendG (D:=P7) 2 Y) (.n)))))<|.s Y .nil) Y fun v13=>sM Y Y<|sQ (dX Y Y) Y<|sQ (dX Y Y) Y<|sA Y Y<|sA Y Y<|sES Y<|sQ (J6 g25 z25 Y (le_ Y)) Y<|sM Y Y<|y4 fun r14 e15=>sQ (J4 ent12 (La K _ _) e15 (.s Y<|.s Y .nil)) Y<|sM Y Y<|sQ (dX Y Y) Y<|sQ (dX Y Y) Y<|sA Y Y<|sA Y Y<|sES Y<|sQ (W6 (j:=1) g25 z25 Y Y (le_ Y)) Y<|y4 fun r16 e17=>rc ent13 Y (q9 K _) e17 (fun _=>flTup ⟨flAgg ⟨flSv,flSv,trivial⟩,flLit,trivial⟩) (fun _=>⟨ac,flOwn (c:=cMove) (fun _=>⟨flLit,flLit,flLit,flLit,flLit,trivial⟩),trivial⟩) (.g Y (lendA (.k (.o 2 Y (.x (lendG (D:=P7) 3 Y) (.n))))) .nil) Y fun ⟨v18,us20,v19⟩=>sM Y Y<|sQ (dX Y Y) Y<|sQ (dX Y Y) Y<|m6 (az:=[.lit (.slice none 0 0),.lit (.slice none 0 0)]) al37 (fun _ _=>.cons Y (.cons Y .nil)) Y fun b21=>Q7 (j:=0) z37 Y Y Y cAgg ⟨oSv,oSv,trivial⟩ Y (le_ Y)<|sA Y Y<|sES Y<|sQ (J6 g25 z25 Y (le_ Y)) Y<|y4 fun r22 e23=>sQ (J4 ent14 (G9 K _) e23 (.s Y .nil)) Y<|sM Y Y<|sQ (dX Y Y) Y<|sQ (dX Y Y) Y<|m6 (az:=[.lit (.slice none 0 0),.lit (.slice none 0 0)]) al37 (fun _ _=>.cons Y (.cons Y .nil)) Y fun b24=>Q7 (j:=0) z37 Y Y Y cAgg ((cAutomaton).one _) Y (le_ Y)<|sA Y Y<|j0<|J0<|sSR Y<|sM Y Y<|sM Y Y<|y4 fun r25 e26=>sQ (zb ent15 (y6 K _ _) e26 flLit (.o 4 Y Y<|.s Y .nil)) Y<|sQ (c8 Y) Y<|sM Y Y<|c3 (fun h27=>?_) (fun h27=>?_)
 ·refine sU 4 Y Y Y h27 Y Y<|sU 4 Y Y Y h27 Y Y<|sU 4 Y Y Y h27 Y Y<|sU 4 Y Y Y h27 Y Y<|sQ (Q0 Y h27 Y) Y<|sM Y Y<|sU 10 Y Y Y Y Y Y<|sU 10 Y Y Y Y Y Y<|sU 10 Y Y Y Y Y Y<|sU 10 Y Y Y Y Y Y<|sQ (Q0 Y Y Y) Y<|sM Y Y<|sU 16 Y Y Y Y Y Y<|sU 16 Y Y Y Y Y Y<|sU 16 Y Y Y Y Y Y<|sU 16 Y Y Y Y Y Y<|sQ (Q0 Y Y Y) Y<|j0<|y5 Y Y<|sSR Y<|sA Y Y<|j0<|sPk [] (H':=[]) Y<|P0 [] Try.func3 Try.results3 (rT Y) ⟨Y,Y⟩
 ·refine sG 4 Y Y Y (eF h27) Y (dMv Y) Y<|y4 fun r28 e29=>sG 4 Y Y Y (eF h27) Y (J4 ent16 (f7 K _) e29 (.s Y .nil)) Y<|sG 4 Y Y Y (eF h27) Y (dMv Y) Y<|sG 4 Y Y Y (eF h27) Y (dNe Y Y) Y<|sQ (f0 Y (eF h27) Y) Y<|sM Y Y<|c3 (fun h30=>?_) (fun h30=>?_)
  ·refine sU 10 Y Y Y (dT h30) Y Y<|sU 10 Y Y Y (dT h30) Y Y<|sU 10 Y Y Y (dT h30) Y Y<|sU 10 Y Y Y (dT h30) Y Y<|sQ (Q0 Y (dT h30) Y) Y<|sM Y Y<|sU 16 Y Y Y Y Y Y<|sU 16 Y Y Y Y Y Y<|sU 16 Y Y Y Y Y Y<|sU 16 Y Y Y Y Y Y<|sQ (Q0 Y Y Y) Y<|j0<|y5 Y Y<|sSR Y<|sA Y Y<|j0<|sPk [] (H':=[]) Y<|P0 [] Try.func3 Try.results3 (rT Y) ⟨Y,Y⟩
  ·refine sG 10 Y Y Y (dF h30) Y (W6 (j:=1) g37 z37 Y Y (le_ Y)) Y<|sG 10 Y Y Y (dF h30) Y (W6 (j:=0) g37 z37 Y Y (le_ Y)) Y<|y4 fun r31 e32=>sG 10 Y Y Y (dF h30) Y (zb ent17 (L7 K _ _) e32 flLit (.g Y (lendA (.x (lendG (D:=V3) 2 Y) (.o 3 Y (.n))))<|.s Y .nil)) Y<|sG 10 Y Y Y (dF h30) Y (c8 Y) Y<|sQ (f0 Y (dF h30) Y) Y<|sM Y Y<|c3 (fun h33=>?_) (fun h33=>?_)
   ·refine sU 16 Y Y Y h33 Y Y<|sU 16 Y Y Y h33 Y Y<|sU 16 Y Y Y h33 Y Y<|sU 16 Y Y Y h33 Y Y<|sQ (Q0 Y h33 Y) Y<|j0<|y5 Y Y<|sSR Y<|sA Y Y<|j0<|sPk [] (H':=[]) Y<|P0 [] Try.func3 Try.results3 (rT Y) ⟨Y,Y⟩
   ·refine sG 16 Y Y Y (eF h33) Y (dMv Y) Y<|y4 fun r34 e35=>sG 16 Y Y Y (eF h33) Y (J4 ent16 (f7 K _) e35 (.s Y .nil)) Y<|sG 16 Y Y Y (eF h33) Y (dMv Y) Y<|sG 16 Y Y Y (eF h33) Y (dNe Y Y) Y<|sQ (f0 Y (eF h33) Y) Y<|j0<|P2 Y (fun h36=>?_) (fun h36=>?_)
    ·refine sSR Y<|sA Y Y<|j0<|sPk [] (H':=[]) Y<|P0 [] Try.func3 Try.results3 (rT Y) ⟨Y,Y⟩
    ·refine V0<|sSR Y<|sM Y Y<|y4 fun r37 e38=>gb [4] ent18 Y (k8 K _ _) e38 Y (.s Y .nil) Y fun _=>j0<|J0<|sSR Y<|sA Y Y<|j0<|sLo (J3.l0 K) (fun ((xs39,k40):((List (List Place))×Int)) (_:Unit)=>([(1,.fsl cPlace ps2),(2,.fptr ((cGrammar.e g1))),(5,.lit (.pointer (some ⟨b10,0,none⟩))),(6,.fsx cPlace r8),(11,.lit (.pointer (some ⟨b21,0,none⟩))),(13,.lit (.pointer (some ⟨b24,0,none⟩))),(15,Ai .i64 k40)]:Fr)) (fun ((xs39,k40):((List (List Place))×Int)) (_:Unit)=>([.box b24 [.fsl (cL cPlace) r22.1.States,.fsl cMove r22.1.Moves],.box b21 [.sv v18,.sv v19],.trg V3 v18 xs39 us20 none,.own 53 cMove v19 r16.1.Moves,.box b10 [Ai .i64 r3.Start,.sv v5,.sv v6],.own 9 cS v5 r3.Names,.trg P7 v6 r3.Rules us7 none]:List Res)) () (fun _=>Y) [0] ⟨Y,Y,Y,Y,Y,Y,Y,trivial⟩ Y ?_ ?_
     ·rintro ⟨xs39,k40⟩ _
      refine sSR Y<|sQ (W6 (j:=4) g25 z25 Y Y (le_ Y)) Y<|y4 fun r46 e47=>rc ent13 Y (q9 K _) e47 (fun _=>flTup ⟨flAgg ⟨flSv,flSv,trivial⟩,flLit,trivial⟩) (fun _=>⟨ac,flOwn (c:=cMove) (fun _=>⟨flLit,flLit,flLit,flLit,flLit,trivial⟩),trivial⟩) (.g Y (lendA (.k (.o 5 Y (.x (lendG (D:=P7) 6 Y) (.n))))) .nil) Y fun ⟨v48,us50,v49⟩=>sM Y Y<|sQ (dX Y Y) Y<|sQ (dX Y Y) Y<|m6 (az:=[.lit (.slice none 0 0),.lit (.slice none 0 0)]) al37 (fun _ _=>.cons Y (.cons Y .nil)) Y fun b51=>Q7 (j:=0) z37 Y Y Y cAgg ⟨oSv,oSv,trivial⟩ Y (le_ Y)<|sA Y Y<|sES Y<|sQ (W6 (j:=0) g37 z37 Y Y (le_ Y)) Y<|sQ (W6 (j:=3) g37 z37 Y Y (le_ Y)) Y<|y4 fun r52 e53=>sQ (zb ent17 (L7 K _ _) e53 flLit (.g Y (lendA (.x (lendG (D:=V3) 1 Y) (.o 2 Y (.n))))<|.s Y .nil)) Y<|sM Y Y<|c3 (fun h54=>?_) (fun h54=>?_)
      ·refine sG 3 Y Y Y h54 Y (W6 (j:=7) g25 z25 Y Y (le_ Y)) Y<|sG 3 Y Y Y h54 Y (J6 g25 z25 Y (le_ Y)) Y<|y4 fun r55 e56=>sG 3 Y Y Y h54 Y (zb ent19 (c9 K _ _) e56 flLit (.g Y (lendA (.k (.o 8 Y (.x (lendG (D:=P7) 9 Y) (.n)))))<|.s Y .nil)) Y<|sQ (Q0 Y h54 Y) Y<|sM Y Y<|c3 (fun h57=>?_) (fun h57=>?_)
       ·refine sG 8 Y Y Y h57 Y (dMv Y) Y<|sG 8 Y Y Y h57 Y (dMv Y) Y<|y4 fun r58 e59=>sG 8 Y Y Y h57 Y (J4 ent20 (L9 K _ _) e59 (.s Y<|.s Y .nil)) Y<|sQ (Q0 Y h57 Y) Y<|sM Y Y<|c3 (fun h60=>?_) (fun h60=>?_)
        ·refine y4 fun r61 e62=>sG 13 Y Y Y h60 Y (J4 ent21 (ya K) e62 (.nil)) Y<|sQ (Q0 Y h60 Y) Y<|sA Y Y<|j0<|sPk [] (H':=[]) Y<|P0 [] Try.func3 Try.results3 (rT Y) ⟨Y,Y⟩
        ·refine sU 13 Y Y Y (eF h60) Y Y<|sQ (f0 Y (eF h60) Y) Y<|sA Y Y<|j0<|sPk [] (H':=[]) Y<|P0 [] Try.func3 Try.results3 (rT Y) ⟨Y,Y⟩
       ·refine sU 8 Y Y Y (eF h57) Y Y<|sU 8 Y Y Y (eF h57) Y Y<|sU 8 Y Y Y (eF h57) Y Y<|sQ (f0 Y (eF h57) Y) Y<|sM Y Y<|sU 13 Y Y Y Y Y Y<|sQ (f0 Y Y Y) Y<|sA Y Y<|j0<|sPk [] (H':=[]) Y<|P0 [] Try.func3 Try.results3 (rT Y) ⟨Y,Y⟩
      ·refine sU 3 Y Y Y (eF h54) Y Y<|sU 3 Y Y Y (eF h54) Y Y<|sU 3 Y Y Y (eF h54) Y Y<|sQ (f0 Y (eF h54) Y) Y<|sM Y Y<|sU 8 Y Y Y Y Y Y<|sU 8 Y Y Y Y Y Y<|sU 8 Y Y Y Y Y Y<|sQ (f0 Y Y Y) Y<|sM Y Y<|sU 13 Y Y Y Y Y Y<|sQ (f0 Y Y Y) Y<|sA Y Y<|j0<|sPk [] (H':=[]) Y<|P0 [] Try.func3 Try.results3 (rT Y) ⟨Y,Y⟩
     ·rintro m ⟨xs39,k40⟩ _ again0 out0
      refine J0<|sSR Y<|sM Y Y<|sQ (b5 fa37_0 Y) Y<|sQ (L6 (j:=1) g34 Y Y Y) Y<|sQ (jd (j:=2) Try.underlying34 Y Y) Y<|sQ (dLt Y Y) Y<|j0<|P2 Y (fun h41=>?_) (fun h41=>?_)
      ·refine V0<|J0<|M6<|L4 Y<|sQ (b5 fa37_0 Y) Y<|sQ (L6 (j:=1) g34 Y Y Y) Y<|sM Y Y<|M5 fun h42=>sQ (yg (j:=2) Try.underlying34 z26 Y Y Y h42 h41) Y<|sQ (vg (j:=2) (off:=0) k40 g26 Y Y Y h42 h41 Y) Y<|y4 fun r43 e44=>ge 2 k40 Y h42 h41<|gb [1] ent18 Y (k8 K _ _) e44 Y (.s Y .nil) Y fun _=>td 1 [0] r43 Y Y h42 h41 Y<|ae 0 Y fun y45=>j0<|f2<|L4 Y<|sM Y Y<|sQ (k6 Y Y) Y<|sA Y Y<|j0<|M2 (again0 (y45,IntKind.wrap .i64 (k40+1)) ()) [1,1,0,0,0,0,0] ⟨Y,Y,Y,Y,Y,Y,Y,trivial⟩ Y
      ·refine f5 Y<|M2 (out0 (xs39,k40) ()) [0,0,0,0,0,0,0] ⟨Y,Y,Y,Y,Y,Y,Y,trivial⟩ Y
def V5.l1 (K:Nat) (a2:Automaton):Nat→Int→Option (Int ⊕ Bool)
 | 0,_=>none
 | m+1,i9=>if i9<(a2.Moves.length:Int) then if 0≤i9 then if ((rd a2.Moves i9).From)<0 then some (.inr false) else if (a2.States.length:Int)≤((rd a2.Moves i9).From) then some (.inr false) else if ((rd a2.Moves i9).To)<0 then some (.inr false) else if (a2.States.length:Int)≤((rd a2.Moves i9).To) then some (.inr false) else V5.l1 K a2 m (IntKind.wrap .i64 (i9+1)) else none else some (.inl i9)
def V5.l0 (K:Nat) (g1:Grammar) (a2:Automaton):Nat→Int→Option (Int ⊕ Bool)
 | 0,_=>none
 | m+1,i3=>if i3<(a2.States.length:Int) then if 0≤i3 then (m3 K g1 (rd a2.States i3)).bind fun r6=>if r6.2≠0 then some (.inr false) else V5.l0 K g1 a2 m (IntKind.wrap .i64 (i3+1)) else none else some (.inl i3)
def V5 (K:Nat) (g1:Grammar) (a2:Automaton):Option Bool:=brk (V5.l0 K g1 a2 K 0) fun i3=>brk (V5.l1 K a2 K 0) fun i9=>some (decide (0<(a2.States.length:Int)))
def G0.l2 (K:Nat) (r5:(Automaton×Int)) (i14:Int):Nat→Int→Option (Int ⊕ (Int ⊕ Bool))
 | 0,_=>none
 | m+1,j51=>if j51<i14 then if 0≤j51 then if j51<(r5.1.Moves.length:Int) then if ((rd r5.1.Moves j51).From)=((rd r5.1.Moves i14).From) then if ((rd r5.1.Moves j51).Symbol)=(⟨(rd r5.1.Moves i14).Symbol.Name,(rd r5.1.Moves i14).Symbol.Lo,(rd r5.1.Moves i14).Symbol.Hi⟩:Symbol) then some (.inr (.inr false)) else if ((rd r5.1.Moves i14).From)<((rd r5.1.Moves j51).From) then some (.inr (.inr false)) else G0.l2 K r5 i14 m (IntKind.wrap .i64 (j51+1)) else if ((rd r5.1.Moves i14).From)<((rd r5.1.Moves j51).From) then some (.inr (.inr false)) else G0.l2 K r5 i14 m (IntKind.wrap .i64 (j51+1)) else none else none else some (.inl j51)
def G0.l1 (K:Nat) (g1:Grammar) (r5:(Automaton×Int)) (i14:Int):Nat→((List Place)×Int)→Option ((List Place)×Int)
 | 0,_=>none
 | m+1,(xs20,j21)=>if 0≤(rd r5.1.Moves i14).From then if (rd r5.1.Moves i14).From<(r5.1.States.length:Int) then if j21<((rd r5.1.States ((rd r5.1.Moves i14).From)).length:Int) then if 0≤j21 then if 0≤(rd (rd r5.1.States ((rd r5.1.Moves i14).From)) j21).Rule then if (rd (rd r5.1.States ((rd r5.1.Moves i14).From)) j21).Rule<(g1.Rules.length:Int) then if 0≤(rd (rd r5.1.States ((rd r5.1.Moves i14).From)) j21).Conj then if (rd (rd r5.1.States ((rd r5.1.Moves i14).From)) j21).Conj<(((rd g1.Rules ((rd (rd r5.1.States ((rd r5.1.Moves i14).From)) j21).Rule)).Conj).length:Int) then if ((rd (rd r5.1.States ((rd r5.1.Moves i14).From)) j21).Pos)<(((rd ((rd g1.Rules ((rd (rd r5.1.States ((rd r5.1.Moves i14).From)) j21).Rule)).Conj) ((rd (rd r5.1.States ((rd r5.1.Moves i14).From)) j21).Conj)).Seq).length:Int) then if 0≤(rd (rd r5.1.States ((rd r5.1.Moves i14).From)) j21).Pos then if (rd (rd r5.1.States ((rd r5.1.Moves i14).From)) j21).Pos<(((rd ((rd g1.Rules ((rd (rd r5.1.States ((rd r5.1.Moves i14).From)) j21).Rule)).Conj) ((rd (rd r5.1.States ((rd r5.1.Moves i14).From)) j21).Conj)).Seq).length:Int) then if (rd ((rd ((rd g1.Rules ((rd (rd r5.1.States ((rd r5.1.Moves i14).From)) j21).Rule)).Conj) ((rd (rd r5.1.States ((rd r5.1.Moves i14).From)) j21).Conj)).Seq) ((rd (rd r5.1.States ((rd r5.1.Moves i14).From)) j21).Pos))=(⟨(rd r5.1.Moves i14).Symbol.Name,(rd r5.1.Moves i14).Symbol.Lo,(rd r5.1.Moves i14).Symbol.Hi⟩:Symbol) then (Q8 K (⟨(rd (rd r5.1.States ((rd r5.1.Moves i14).From)) j21).Rule,(rd (rd r5.1.States ((rd r5.1.Moves i14).From)) j21).Conj,(rd (rd r5.1.States ((rd r5.1.Moves i14).From)) j21).Pos⟩:Place)).bind fun r35=>if (xs20.length+([r35]:List Place).length)*24≤140737488355328 then G0.l1 K g1 r5 i14 m (xs20++([r35]:List Place),IntKind.wrap .i64 (j21+1)) else none else G0.l1 K g1 r5 i14 m (xs20,IntKind.wrap .i64 (j21+1)) else none else none else G0.l1 K g1 r5 i14 m (xs20,IntKind.wrap .i64 (j21+1)) else none else none else none else none else none else some (xs20,j21) else none else none
def G0.l4 (K:Nat) (r5:(Automaton×Int)) (i59:Int):Nat→(Bool×Int)→Option (Bool×Int)
 | 0,_=>none
 | m+1,(found61,j62)=>if j62<(r5.1.Moves.length:Int) then if found61=true then G0.l4 K r5 i59 m (true,IntKind.wrap .i64 (j62+1)) else if 0≤j62 then if ((rd r5.1.Moves j62).To)=i59 then G0.l4 K r5 i59 m (decide (((rd r5.1.Moves j62).From)<i59),IntKind.wrap .i64 (j62+1)) else G0.l4 K r5 i59 m (false,IntKind.wrap .i64 (j62+1)) else none else some (found61,j62)
def G0.l3 (K:Nat) (r5:(Automaton×Int)):Nat→Int→Option (Int ⊕ Bool)
 | 0,_=>none
 | m+1,i59=>if i59<(r5.1.States.length:Int) then (G0.l4 K r5 i59 K (false,0)).bind fun (found61,j62)=>if (!found61)=true then some (.inr false) else G0.l3 K r5 m (IntKind.wrap .i64 (i59+1)) else some (.inl i59)
def G0.l0 (K:Nat) (g1:Grammar) (r5:(Automaton×Int)):Nat→Int→Option (Int ⊕ Bool)
 | 0,_=>none
 | m+1,i14=>if i14<(r5.1.Moves.length:Int) then if 0≤i14 then (G0.l1 K g1 r5 i14 K (([]:List Place),0)).bind fun (xs20,j21)=>(Q5 K g1 xs20).bind fun r39=>(L2 K r39.2).bind fun r42=>if r42≠0 then some (.inr false) else if (xs20.length:Int)=0 then some (.inr false) else if 0≤(rd r5.1.Moves i14).To then if (rd r5.1.Moves i14).To<(r5.1.States.length:Int) then (L0 K r39.1 (rd r5.1.States ((rd r5.1.Moves i14).To))).bind fun r48=>if (!r48)=true then some (.inr false) else brk (G0.l2 K r5 i14 K 0) fun j51=>G0.l0 K g1 r5 m (IntKind.wrap .i64 (i14+1)) else none else none else none else some (.inl i14)
def G0 (K:Nat) (g1:Grammar):Option Bool:=(P5 K).bind fun r2=>if (!r2)=true then some false else (m5 K g1).bind fun r5=>(L2 K r5.2).bind fun r8=>if r8≠0 then some (decide ((r5.1.States.length:Int)=0)) else (V5 K g1 (⟨r5.1.States,r5.1.Moves⟩:Automaton)).bind fun r11=>if (!r11)=true then some false else brk (G0.l0 K g1 r5 K 0) fun i14=>brk (G0.l3 K r5 K 1) fun i59=>(f1 K g1).bind fun r68=>some r68
def j5.l1 (K:Nat) (ps2:(List Place)) (r7:((List Place)×Int)) (k77:Int):Nat→(Bool×Int)→Option (Bool×Int)
 | 0,_=>none
 | m+1,(found79,m80)=>if m80<(r7.1.length:Int) then if found79=true then j5.l1 K ps2 r7 k77 m (true,IntKind.wrap .i64 (m80+1)) else if 0≤m80 then if 0≤k77 then j5.l1 K ps2 r7 k77 m (decide ((rd r7.1 m80)=(rd ps2 k77)),IntKind.wrap .i64 (m80+1)) else none else none else some (found79,m80)
def j5.l0 (K:Nat) (ps2:(List Place)) (r7:((List Place)×Int)):Nat→Int→Option (Int ⊕ Bool)
 | 0,_=>none
 | m+1,k77=>if k77<(ps2.length:Int) then (j5.l1 K ps2 r7 k77 K (false,0)).bind fun (found79,m80)=>if (!found79)=true then some (.inr false) else j5.l0 K ps2 r7 m (IntKind.wrap .i64 (k77+1)) else some (.inl k77)
def j5 (K:Nat) (g1:Grammar) (ps2:(List Place)) (qs3:(List Place)):Option Bool:=(P5 K).bind fun r4=>if (!r4)=true then some false else (Q5 K g1 ps2).bind fun r7=>(Q5 K g1 qs3).bind fun r10=>(L2 K r7.2).bind fun r13=>if r13≠0 then (if (r7.1.length:Int)=0 then some true else some (decide ((r10.1.length:Int)=0))).bind fun t16=>some t16 else (L2 K r10.2).bind fun r19=>if r19≠0 then (if (r7.1.length:Int)=0 then some true else some (decide ((r10.1.length:Int)=0))).bind fun t22=>some t22 else (Q5 K g1 r7.1).bind fun r25=>if (([]:List Place).length+ps2.length)*24≤140737488355328 then if ((([]:List Place)++ps2).length+qs3.length)*24≤140737488355328 then (Q5 K g1 ((([]:List Place)++ps2)++qs3)).bind fun r33=>(some ()).bind fun _=>if (([]:List Place).length+r7.1.length)*24≤140737488355328 then if ((([]:List Place)++r7.1).length+r10.1.length)*24≤140737488355328 then (Q5 K g1 ((([]:List Place)++r7.1)++r10.1)).bind fun r50=>(some ()).bind fun _=>(L2 K r25.2).bind fun r62=>if r62≠0 then some false else (L2 K r33.2).bind fun r65=>if r65≠0 then some false else (L2 K r50.2).bind fun r68=>if r68≠0 then some false else (L0 K r7.1 r25.1).bind fun r71=>if (!r71)=true then some false else (L0 K r33.1 r50.1).bind fun r74=>if (!r74)=true then some false else brk (j5.l0 K ps2 r7 K 0) fun k77=>some (decide ((r33.1.length:Int)≤(IntKind.wrap .i64 ((r7.1.length:Int)+(r10.1.length:Int))))) else none else none else none else none
def Q3.l2 (K:Nat) (many1:Int) (r27:(Automaton×Int)):Nat→Int→Option (Int ⊕ Bool)
 | 0,_=>none
 | m+1,i42=>if i42≤(iand .i64 many1 31) then if 0≤i42 then if i42<(r27.1.States.length:Int) then (L0 K (rd r27.1.States i42) ([(⟨(0:Int),(0:Int),i42⟩:Place)]:List Place)).bind fun r46=>if (!r46)=true then some (.inr false) else Q3.l2 K many1 r27 m (IntKind.wrap .i64 (i42+1)) else none else none else some (.inl i42)
def Q3.l1 (K:Nat) (many1:Int) (xs9:(List Conjunct)) (r27:(Automaton×Int)):Nat→Int→Option (Int ⊕ Bool)
 | 0,_=>none
 | m+1,i35=>if i35<(iand .i64 many1 31) then if 0≤i35 then if i35<(r27.1.Moves.length:Int) then if 0<(xs9.length:Int) then if i35<(((rd xs9 0).Seq).length:Int) then if (rd r27.1.Moves i35)≠(⟨i35,⟨(rd ((rd xs9 0).Seq) i35).Name,(rd ((rd xs9 0).Seq) i35).Lo,(rd ((rd xs9 0).Seq) i35).Hi⟩,IntKind.wrap .i64 (i35+1)⟩:Move) then some (.inr false) else Q3.l1 K many1 xs9 r27 m (IntKind.wrap .i64 (i35+1)) else none else none else none else none else some (.inl i35)
def Q3.l0 (K:Nat) (many1:Int):Nat→((List Conjunct)×Int)→Option ((List Conjunct)×Int)
 | 0,_=>none
 | m+1,(xs9,i10)=>if i10<(iand .i64 many1 31) then if 0<(xs9.length:Int) then if (((rd xs9 0).Seq).length+([(⟨(-1),97,IntKind.wrap .i64 (97+(iand .i64 i10 1))⟩:Symbol)]:List Symbol).length)*24≤140737488355328 then Q3.l0 K many1 m (xs9.set (0:Int).toNat (⟨(rd xs9 0).Neg,((rd xs9 0).Seq)++([(⟨(-1),97,IntKind.wrap .i64 (97+(iand .i64 i10 1))⟩:Symbol)]:List Symbol)⟩:Conjunct),IntKind.wrap .i64 (i10+1)) else none else none else some (xs9,i10)
def Q3 (K:Nat) (many1:Int) (more2:Bool):Option Bool:=(P5 K).bind fun r3=>if (!r3)=true then some false else (Q3.l0 K many1 K (([(⟨false,([]:List Symbol)⟩:Conjunct)]:List Conjunct),0)).bind fun (xs9,i10)=>(if more2=true then if (([(⟨(0:Int),xs9⟩:Rule)]:List Rule).length+([(⟨(0:Int),([(⟨true,([]:(List Symbol))⟩:Conjunct)]:List Conjunct)⟩:Rule)]:List Rule).length)*32≤140737488355328 then some (([(⟨(0:Int),xs9⟩:Rule)]:List Rule)++([(⟨(0:Int),([(⟨true,([]:(List Symbol))⟩:Conjunct)]:List Conjunct)⟩:Rule)]:List Rule)) else none else some ([(⟨(0:Int),xs9⟩:Rule)]:List Rule)).bind fun xs22=>(m5 K (⟨(0:Int),([(⟨#[83]⟩:ByteArray)]:List ByteArray),xs22⟩:Grammar)).bind fun r27=>(L2 K r27.2).bind fun r30=>if r30≠0 then some false else if (r27.1.States.length:Int)≠(IntKind.wrap .i64 ((iand .i64 many1 31)+1)) then some false else if (r27.1.Moves.length:Int)≠(iand .i64 many1 31) then some false else brk (Q3.l1 K many1 xs9 r27 K 0) fun i35=>brk (Q3.l2 K many1 r27 K 1) fun i42=>some true
def V4.l2 (K:Nat) (g1:Grammar) (b3:Int) (neg4:Bool) (i5:Int) (j9:Int):Nat→Int→Option (Int ⊕ (Int ⊕ (Int ⊕ Bool)))
 | 0,_=>none
 | m+1,k13=>if k13<(((rd ((rd g1.Rules i5).Conj) j9).Seq).length:Int) then if ((rd ((rd g1.Rules i5).Conj) j9).Neg)=neg4 then if 0≤k13 then if ((rd ((rd ((rd g1.Rules i5).Conj) j9).Seq) k13).Name)=b3 then some (.inr (.inr (.inr true))) else V4.l2 K g1 b3 neg4 i5 j9 m (IntKind.wrap .i64 (k13+1)) else none else some (.inl k13) else some (.inl k13)
def V4.l1 (K:Nat) (g1:Grammar) (b3:Int) (neg4:Bool) (i5:Int):Nat→Int→Option (Int ⊕ (Int ⊕ Bool))
 | 0,_=>none
 | m+1,j9=>if j9<(((rd g1.Rules i5).Conj).length:Int) then if 0≤j9 then brk (V4.l2 K g1 b3 neg4 i5 j9 K 0) fun k13=>V4.l1 K g1 b3 neg4 i5 m (IntKind.wrap .i64 (j9+1)) else none else some (.inl j9)
def V4.l0 (K:Nat) (g1:Grammar) (a2:Int) (b3:Int) (neg4:Bool):Nat→Int→Option (Int ⊕ Bool)
 | 0,_=>none
 | m+1,i5=>if i5<(g1.Rules.length:Int) then if 0≤i5 then if ((rd g1.Rules i5).Head)≠a2 then V4.l0 K g1 a2 b3 neg4 m (IntKind.wrap .i64 (i5+1)) else brk (V4.l1 K g1 b3 neg4 i5 K 0) fun j9=>V4.l0 K g1 a2 b3 neg4 m (IntKind.wrap .i64 (i5+1)) else none else some (.inl i5)
def V4 (K:Nat) (g1:Grammar) (a2:Int) (b3:Int) (neg4:Bool):Option Bool:=brk (V4.l0 K g1 a2 b3 neg4 K 0) fun i5=>some false
def W4.l2 (K:Nat) (g1:Grammar) (a9:Int) (b13:Int):Nat→((List Edge)×Int)→Option ((List Edge)×Int)
 | 0,_=>none
 | m+1,(xs16,k17)=>if k17<2 then (V4 K g1 a9 b13 (decide (k17=1))).bind fun r19=>if r19=true then if (xs16.length+([(⟨a9,b13,decide (k17=1)⟩:Edge)]:List Edge).length)*24≤140737488355328 then W4.l2 K g1 a9 b13 m (xs16++([(⟨a9,b13,decide (k17=1)⟩:Edge)]:List Edge),IntKind.wrap .i64 (k17+1)) else none else W4.l2 K g1 a9 b13 m (xs16,IntKind.wrap .i64 (k17+1)) else some (xs16,k17)
def W4.l1 (K:Nat) (g1:Grammar) (a9:Int):Nat→((List Edge)×Int)→Option ((List Edge)×Int)
 | 0,_=>none
 | m+1,(xs12,b13)=>if b13<(g1.Names.length:Int) then (W4.l2 K g1 a9 b13 K (xs12,0)).bind fun (xs16,k17)=>W4.l1 K g1 a9 m (xs16,IntKind.wrap .i64 (b13+1)) else some (xs12,b13)
def W4.l0 (K:Nat) (g1:Grammar):Nat→((List Edge)×Int)→Option ((List Edge)×Int)
 | 0,_=>none
 | m+1,(xs8,a9)=>if a9<(g1.Names.length:Int) then (W4.l1 K g1 a9 K (xs8,0)).bind fun (xs12,b13)=>W4.l0 K g1 m (xs12,IntKind.wrap .i64 (a9+1)) else some (xs8,a9)
def W4 (K:Nat) (g1:Grammar):Option ((List Edge)×Int):=(f1 K g1).bind fun r2=>if (!r2)=true then some (([]:List Edge),600) else (W4.l0 K g1 K (([]:List Edge),0)).bind fun (xs8,a9)=>some (xs8,0)
def y7.l0 (K:Nat) (names1:Int) (es2:(List Edge)):Nat→Int→Option (Int ⊕ Bool)
 | 0,_=>none
 | m+1,i3=>if i3<(es2.length:Int) then if 0≤i3 then if ((rd es2 i3).From)<0 then some (.inr false) else if names1≤((rd es2 i3).From) then some (.inr false) else if ((rd es2 i3).To)<0 then some (.inr false) else if names1≤((rd es2 i3).To) then some (.inr false) else y7.l0 K names1 es2 m (IntKind.wrap .i64 (i3+1)) else none else some (.inl i3)
def y7 (K:Nat) (names1:Int) (es2:(List Edge)):Option Bool:=brk (y7.l0 K names1 es2 K 0) fun i3=>if 0≤names1 then some (decide (names1≤64)) else some false
def G5.l1 (K:Nat) (es2:(List Edge)):Nat→((List Bool)×Int)→Option ((List Bool)×Int)
 | 0,_=>none
 | m+1,(xs12,i13)=>if i13<(es2.length:Int) then if 0≤i13 then if 0≤(rd es2 i13).From then if (rd es2 i13).From<(xs12.length:Int) then if (rd xs12 ((rd es2 i13).From))=true then if 0≤(rd es2 i13).To then if (rd es2 i13).To<(xs12.length:Int) then G5.l1 K es2 m (xs12.set ((rd es2 i13).To).toNat true,IntKind.wrap .i64 (i13+1)) else none else none else G5.l1 K es2 m (xs12,IntKind.wrap .i64 (i13+1)) else none else none else none else some (xs12,i13)
def G5.l0 (K:Nat) (names1:Int) (es2:(List Edge)):Nat→((List Bool)×Int)→Option ((List Bool)×Int)
 | 0,_=>none
 | m+1,(xs9,r10)=>if r10<names1 then (G5.l1 K es2 K (xs9,0)).bind fun (xs12,i13)=>G5.l0 K names1 es2 m (xs12,IntKind.wrap .i64 (r10+1)) else some (xs9,r10)
def G5 (K:Nat) (names1:Int) (es2:(List Edge)) (from3:Int):Option (List Bool):=if 0≤names1 then if (1:Int)*names1≤281474976710656 then if 0≤from3 then if from3<((List.replicate names1.toNat false).length:Int) then (G5.l0 K names1 es2 K ((List.replicate names1.toNat false).set from3.toNat true,0)).bind fun (xs9,r10)=>some xs9 else none else none else none else none
def Wa (K:Nat) (names1:Int) (es2:(List Edge)) (from3:Int) (to4:Int):Option Bool:=(y7 K names1 es2).bind fun r5=>if (!r5)=true then some false else if from3<0 then some false else if names1≤from3 then some false else if to4<0 then some false else if names1≤to4 then some false else (G5 K names1 es2 from3).bind fun r12=>if to4<(r12.length:Int) then some (rd r12 to4) else none
def pb (K:Nat) (g1:Grammar) (name2:Int):Option Bool:=(W4 K g1).bind fun r3=>(Wa K (g1.Names.length:Int) r3.1 g1.Start name2).bind fun r6=>some r6
def P1.l3 (K:Nat) (r5:(Automaton×Int)) (i24:Int):Nat→Int→Option (Int ⊕ (Int ⊕ Bool))
 | 0,_=>none
 | m+1,j46=>if j46<i24 then if 0≤i24 then if 0≤j46 then if j46<(r5.1.States.length:Int) then (L0 K (rd r5.1.States i24) (rd r5.1.States j46)).bind fun r51=>if r51=true then some (.inr (.inr false)) else P1.l3 K r5 i24 m (IntKind.wrap .i64 (j46+1)) else none else none else none else some (.inl j46)
def P1.l2 (K:Nat) (r5:(Automaton×Int)) (i24:Int):Nat→Int→Option (Int ⊕ (Int ⊕ Bool))
 | 0,_=>none
 | m+1,j26=>if 0≤i24 then if j26<((rd r5.1.States i24).length:Int) then if 0≤IntKind.wrap .i64 (j26-1) then if IntKind.wrap .i64 (j26-1)<((rd r5.1.States i24).length:Int) then if 0≤j26 then (some ()).bind fun _=>if ((rd (rd r5.1.States i24) j26).Rule)<((rd (rd r5.1.States i24) (IntKind.wrap .i64 (j26-1))).Rule) then some (.inr (.inr false)) else if ((rd (rd r5.1.States i24) (IntKind.wrap .i64 (j26-1))).Rule)=((rd (rd r5.1.States i24) j26).Rule) then if ((rd (rd r5.1.States i24) j26).Conj)<((rd (rd r5.1.States i24) (IntKind.wrap .i64 (j26-1))).Conj) then some (.inr (.inr false)) else if ((rd (rd r5.1.States i24) (IntKind.wrap .i64 (j26-1))).Conj)=((rd (rd r5.1.States i24) j26).Conj) then if ((rd (rd r5.1.States i24) j26).Pos)≤((rd (rd r5.1.States i24) (IntKind.wrap .i64 (j26-1))).Pos) then some (.inr (.inr false)) else P1.l2 K r5 i24 m (IntKind.wrap .i64 (j26+1)) else P1.l2 K r5 i24 m (IntKind.wrap .i64 (j26+1)) else P1.l2 K r5 i24 m (IntKind.wrap .i64 (j26+1)) else none else none else none else some (.inl j26) else none
def P1.l1 (K:Nat) (r5:(Automaton×Int)):Nat→Int→Option (Int ⊕ Bool)
 | 0,_=>none
 | m+1,i24=>if i24<(r5.1.States.length:Int) then brk (P1.l2 K r5 i24 K 1) fun j26=>brk (P1.l3 K r5 i24 K 0) fun j46=>P1.l1 K r5 m (IntKind.wrap .i64 (i24+1)) else some (.inl i24)
def P1.l0 (K:Nat) (g1:Grammar) (r5:(Automaton×Int)):Nat→Int→Option (Int ⊕ Bool)
 | 0,_=>none
 | m+1,i14=>if 0<(r5.1.States.length:Int) then if i14<((rd r5.1.States 0).length:Int) then if 0≤i14 then if ((rd (rd r5.1.States 0) i14).Pos)≠0 then some (.inr false) else if 0≤(rd (rd r5.1.States 0) i14).Rule then if (rd (rd r5.1.States 0) i14).Rule<(g1.Rules.length:Int) then (pb K g1 ((rd g1.Rules ((rd (rd r5.1.States 0) i14).Rule)).Head)).bind fun r21=>if (!r21)=true then some (.inr false) else P1.l0 K g1 r5 m (IntKind.wrap .i64 (i14+1)) else none else none else none else some (.inl i14) else none
def P1 (K:Nat) (g1:Grammar):Option Bool:=(P5 K).bind fun r2=>if (!r2)=true then some false else (m5 K g1).bind fun r5=>(L2 K r5.2).bind fun r8=>if r8≠0 then some (decide ((r5.1.States.length:Int)=0)) else (V5 K g1 (⟨r5.1.States,r5.1.Moves⟩:Automaton)).bind fun r11=>if (!r11)=true then some false else brk (P1.l0 K g1 r5 K 0) fun i14=>brk (P1.l1 K r5 K 0) fun i24=>(f1 K g1).bind fun r54=>if r54=true then some (decide ((r5.1.States.length:Int)≤256)) else some false
def W3.l2 (K:Nat) (sizes3:Int) (i15:Int) (j23:Int):Nat→((List Symbol)×Int)→Option ((List Symbol)×Int)
 | 0,_=>none
 | m+1,(xs28,q29)=>if 0≤j23 then if q29<(iand .i64 (ishr .i64 sizes3 j23) 3) then if (xs28.length+([(⟨(-1),i15,IntKind.wrap .i64 (i15+q29)⟩:Symbol)]:List Symbol).length)*24≤140737488355328 then W3.l2 K sizes3 i15 j23 m (xs28++([(⟨(-1),i15,IntKind.wrap .i64 (i15+q29)⟩:Symbol)]:List Symbol),IntKind.wrap .i64 (q29+1)) else none else some (xs28,q29) else none
def W3.l1 (K:Nat) (conj2:Int) (sizes3:Int) (i15:Int):Nat→((List Conjunct)×(List Place)×Int)→Option ((List Conjunct)×(List Place)×Int)
 | 0,_=>none
 | m+1,(xs20,xs22,j23)=>if j23<(IntKind.wrap .i64 (1+(iand .i64 conj2 7))) then (W3.l2 K sizes3 i15 j23 K (([]:List Symbol),0)).bind fun (xs28,q29)=>if (xs20.length+([(⟨decide ((iand .i64 j23 1)=1),xs28⟩:Conjunct)]:List Conjunct).length)*32≤140737488355328 then if (xs22.length+([(⟨IntKind.wrap .i64 (i15+1),j23,(0:Int)⟩:Place)]:List Place).length)*24≤140737488355328 then W3.l1 K conj2 sizes3 i15 m (xs20++([(⟨decide ((iand .i64 j23 1)=1),xs28⟩:Conjunct)]:List Conjunct),xs22++([(⟨IntKind.wrap .i64 (i15+1),j23,(0:Int)⟩:Place)]:List Place),IntKind.wrap .i64 (j23+1)) else none else none else some (xs20,xs22,j23)
def W3.l0 (K:Nat) (rules1:Int) (conj2:Int) (sizes3:Int):Nat→((List Place)×(List Rule)×Int)→Option ((List Place)×(List Rule)×Int)
 | 0,_=>none
 | m+1,(xs12,xs14,i15)=>if i15<(IntKind.wrap .i64 (1+(iand .i64 rules1 7))) then (W3.l1 K conj2 sizes3 i15 K (([]:List Conjunct),xs12,0)).bind fun (xs20,xs22,j23)=>if (xs14.length+([(⟨1,xs20⟩:Rule)]:List Rule).length)*32≤140737488355328 then W3.l0 K rules1 conj2 sizes3 m (xs22,xs14++([(⟨1,xs20⟩:Rule)]:List Rule),IntKind.wrap .i64 (i15+1)) else none else some (xs12,xs14,i15)
def W3 (K:Nat) (rules1:Int) (conj2:Int) (sizes3:Int):Option Bool:=(P5 K).bind fun r4=>if (!r4)=true then some false else (W3.l0 K rules1 conj2 sizes3 K (([(⟨(0:Int),(0:Int),(0:Int)⟩:Place)]:List Place),([(⟨(0:Int),([(⟨false,([(⟨1,(0:Int),(0:Int)⟩:Symbol)]:List Symbol)⟩:Conjunct)]:List Conjunct)⟩:Rule)]:List Rule),0)).bind fun (xs12,xs14,i15)=>(Q5 K (⟨(0:Int),([(⟨#[83]⟩:ByteArray),(⟨#[88]⟩:ByteArray)]:List ByteArray),xs14⟩:Grammar) ([(⟨(0:Int),(0:Int),(0:Int)⟩:Place)]:List Place)).bind fun r40=>(Q5 K (⟨(0:Int),([(⟨#[83]⟩:ByteArray),(⟨#[88]⟩:ByteArray)]:List ByteArray),xs14⟩:Grammar) ([(⟨(0:Int),(0:Int),1⟩:Place),(⟨(0:Int),(0:Int),1⟩:Place)]:List Place)).bind fun r43=>(Q5 K (⟨(0:Int),([(⟨#[83]⟩:ByteArray),(⟨#[88]⟩:ByteArray)]:List ByteArray),xs14⟩:Grammar) []).bind fun r46=>(L2 K r40.2).bind fun r49=>if r49=0 then (L0 K r40.1 xs12).bind fun r52=>if r52=true then (L2 K r43.2).bind fun r55=>if r55=0 then (L0 K r43.1 ([(⟨(0:Int),(0:Int),1⟩:Place)]:List Place)).bind fun r58=>if r58=true then if (r46.1.length:Int)=0 then (L2 K r46.2).bind fun r62=>some (decide (r62=0)) else some false else some false else some false else some false else some false
set_option linter.unusedSimpArgs false
def RuleBd (r:Rule):Prop:=r.Conj.length≤8∧∀ c ∈ r.Conj,c.Seq.length≤64
def Bd (g:Grammar):Prop:=g.Rules.length≤256∧∀ r ∈ g.Rules,RuleBd r
def runL {τ ρ α:Type} (B:τ→α→τ ⊕ ρ):τ→List α→τ ⊕ ρ
 | s,[]=>.inl s
 | s,x::xs=>match B s x with | .inl s'=>runL B s' xs | .inr r=>.inr r
theorem scanL {τ ρ α:Type} [Inhabited α] (xs:List α) (L:Nat→τ×Int→Option ((τ×Int) ⊕ ρ)) (B:τ→α→τ ⊕ ρ) (I:Nat→τ→Prop)
  (step:∀ m s i,i<xs.length→I i s→L (m+1) (s,(i:Int))=match B s (rd xs (i:Int)) with | .inr r=>some (.inr r) | .inl s'=>L m (s',(i:Int)+1))
  (stop:∀ m s,L (m+1) (s,(xs.length:Int))=some (.inl (s,(xs.length:Int)))) (hI:∀ s i,i<xs.length→I i s→∀ s',B s (rd xs (i:Int)) = .inl s'→I (i+1) s')
  (m:Nat) (hm:xs.length<m) (s:τ) (h0:I 0 s):L m (s,0)=some (match runL B s xs with | .inl s'=>.inl (s',(xs.length:Int)) | .inr r=>.inr r):=by
 have key:∀ k i s m,i+k=xs.length→k<m→I i s→L m (s,(i:Int))=some (match runL B s (xs.drop i) with | .inl s'=>.inl (s',(xs.length:Int)) | .inr r=>.inr r):=by
  intro k
  induction k with
  | zero =>
   intro i s m hi hm h
   obtain ⟨m,rfl⟩:∃ q,m=q+1:=⟨m-1,by omega⟩
   have:i=xs.length:=by omega
   subst this
   rw [stop,List.drop_length];rfl
  | succ k ih =>
   intro i s m hi hm h
   obtain ⟨m,rfl⟩:∃ q,m=q+1:=⟨m-1,by omega⟩
   have hil:i<xs.length:=by omega
   have e:rd xs (i:Int)=xs[i]:=by rw [rd_nat,List.getD_eq_getElem?_getD,List.getElem?_eq_getElem hil];rfl
   have hn:=hI s i hil h
   rw [step m s i hil h,List.drop_eq_getElem_cons hil,runL,← e]
   cases hb:B s (rd xs (i:Int)) with
   | inr r=>rfl
   | inl s'=>simpa using ih (i+1) s' m (by omega) (by omega) (hn s' hb)
 simpa using key xs.length 0 s m (by omega) hm h0
def letterP (c:Int):Prop:=(65≤c∧c≤90)∨(97≤c∧c≤122)∨c=95
def moreP (c:Int):Prop:=letterP c∨(48≤c∧c≤57)
def nameP (s:ByteArray):Prop:=1≤s.size∧s.size≤32∧s≠(⟨#[115,116,97,114,116]⟩:ByteArray)∧letterP (bt s 0)∧∀ i:Nat,i<s.size→moreP (bt s (i:Int))
theorem letter_spec (K:Nat) (c:Int):∃ b,V8 K c=some b∧(b=true↔letterP c):=by
 unfold V8 letterP
 repeat' split
 all_goals refine ⟨_,rfl,?_⟩
 all_goals first | simp only [true_iff,decide_eq_true_eq] | skip
 all_goals omega
theorem more_spec (K:Nat) (c:Int):∃ b,cb K c=some b∧(b=true↔moreP c):=by
 obtain ⟨b,hb,hl⟩:=letter_spec K c
 unfold cb moreP
 rw [hb,Option.bind_some]
 repeat' split
 all_goals refine ⟨_,rfl,?_⟩
 all_goals simp only [true_iff,decide_eq_true_eq,Bool.false_eq_true,false_iff] at *
 all_goals rw [← hl]
 all_goals simp_all
 all_goals omega
theorem rletter_spec (K:Nat) (c:Int):∃ b,c7 K c=some b∧(b=true↔letterP c):=by
 unfold c7 letterP
 repeat' split
 all_goals refine ⟨_,rfl,?_⟩
 all_goals first | simp only [true_iff,decide_eq_true_eq] | skip
 all_goals omega
theorem rdigit_spec (K:Nat) (c:Int):∃ b,g8 K c=some b∧(b=true↔48≤c∧c≤57):=by
 unfold g8
 repeat' split
 all_goals refine ⟨_,rfl,?_⟩
 all_goals simp only [decide_eq_true_eq,Bool.false_eq_true,false_iff]
 all_goals omega
theorem ask_all {n K:Nat} {L:Nat→Int→Option (Int ⊕ Bool)} {p:Nat→Prop} (hn:n<K) (step:∀ m i,i<n→(p i∧L (m+1) (i:Int)=L m ((i:Int)+1))∨(¬ p i∧L (m+1) (i:Int)=some (.inr false)))
  (stop:∀ m,L (m+1) (n:Int)=some (.inl (n:Int))):(L K 0=some (.inl (n:Int))∧∀ i,i<n→p i)∨(L K 0=some (.inr false)∧¬ ∀ i,i<n→p i):=by
 have key:∀ k i m,i+k=n→k<m→(L m (i:Int)=some (.inl (n:Int))∧∀ j,i≤j→j<n→p j)∨(L m (i:Int)=some (.inr false)∧¬ ∀ j,i≤j→j<n→p j):=by
  intro k
  induction k with
  | zero =>
   intro i m hi hm
   obtain ⟨m,rfl⟩:∃ q,m=q+1:=⟨m-1,by omega⟩
   have:i=n:=by omega
   subst this
   exact .inl ⟨stop m,fun j h1 h2=>by omega⟩
  | succ k ih =>
   intro i m hi hm
   obtain ⟨m,rfl⟩:∃ q,m=q+1:=⟨m-1,by omega⟩
   rcases step m i (by omega) with ⟨hp,he⟩ | ⟨hp,he⟩
   ·rw [he]
    have:=ih (i+1) m (by omega) (by omega)
    rw [show ((i+1:Nat):Int)=(i:Int)+1 by omega] at this
    rcases this with ⟨h1,h2⟩ | ⟨h1,h2⟩
    ·refine .inl ⟨h1,fun j q1 q2=>?_⟩
     rcases Nat.eq_or_lt_of_le q1 with rfl | q1
     ·exact hp
     ·exact h2 j q1 q2
    ·exact .inr ⟨h1,fun h=>h2 fun j q1 q2=>h j (by omega) q2⟩
   ·exact .inr ⟨he,fun h=>hp (h i (Nat.le_refl _) (by omega))⟩
 have:=key n 0 K (by omega) hn
 rw [show ((0:Nat):Int)=0 from rfl] at this
 rcases this with ⟨h1,h2⟩ | ⟨h1,h2⟩
 ·exact .inl ⟨h1,fun i hi=>h2 i (Nat.zero_le _) hi⟩
 ·exact .inr ⟨h1,fun h=>h2 fun j _ hj=>h j hj⟩
theorem lexName_spec (K:Nat) (hK:1000≤K) (s:ByteArray):∃ b,W7 K s=some b∧(b=true↔nameP s):=by
 unfold W7 nameP
 by_cases h1:s=(⟨#[]⟩:ByteArray)
 ·rw [if_pos h1];refine ⟨_,rfl,?_⟩
  subst h1
  simp only [Bool.false_eq_true,false_iff]
  exact fun h=>absurd h.1 (by decide)
 rw [if_neg h1]
 by_cases h2:32<(s.size:Int)
 ·rw [if_pos h2];exact ⟨_,rfl,by simp;omega⟩
 rw [if_neg h2]
 have h0:0<(s.size:Int):=by
  rcases Nat.eq_zero_or_pos s.size with h | h
  ·exfalso;apply h1
   apply ByteArray.ext
   exact Array.eq_empty_of_size_eq_zero h
  ·omega
 by_cases h3:s=(⟨#[115,116,97,114,116]⟩:ByteArray)
 ·rw [if_pos h3];exact ⟨_,rfl,by simp [h3]⟩
 rw [if_neg h3,if_pos h0]
 obtain ⟨b,hb,hl⟩:=letter_spec K (bt s 0)
 rw [hb,Option.bind_some]
 cases b with
 | false=>exact ⟨false,rfl,by simp only [Bool.false_eq_true,false_iff];exact fun h=>absurd (hl.2 h.2.2.2.1) (by decide)⟩
 | true =>
  rw [if_neg (by decide)]
  rcases ask_all (n:=s.size) (K:=K) (L:=W7.l0 K s) (p:=fun i=>moreP (bt s (i:Int))) (by omega) (fun m i hi=>by
   obtain ⟨q,hq,hm⟩:=more_spec K (bt s (i:Int))
   simp only [W7.l0]
   rw [if_pos (by omega),if_pos (Int.natCast_nonneg i),hq,Option.bind_some,wr (a:=(i:Int)+1) (by omega) (by omega)]
   cases q with
   | true=>exact .inl ⟨hm.1 rfl,rfl⟩
   | false=>exact .inr ⟨fun h=>absurd (hm.2 h) (by decide),rfl⟩) (fun m=>by simp only [W7.l0];rw [if_neg (by omega)]) with ⟨h4,h5⟩ | ⟨h4,h5⟩
  ·rw [h4];exact ⟨true,rfl,by simp only [true_iff];exact ⟨by omega,by omega,h3,hl.1 rfl,h5⟩⟩
  ·rw [h4];exact ⟨false,rfl,by simp only [Bool.false_eq_true,false_iff];exact fun h=>h5 h.2.2.2.2⟩
theorem rName_spec (K:Nat) (hK:1000≤K) (s:ByteArray):∃ b,c4 K s=some b∧(b=true↔nameP s):=by
 unfold c4 nameP
 by_cases h1:(s.size:Int)<1
 ·rw [if_pos h1];exact ⟨_,rfl,by simp;omega⟩
 rw [if_neg h1]
 by_cases h2:32<(s.size:Int)
 ·rw [if_pos h2];exact ⟨_,rfl,by simp;omega⟩
 rw [if_neg h2]
 have h0:0<(s.size:Int):=by omega
 by_cases h3:s=(⟨#[115,116,97,114,116]⟩:ByteArray)
 ·rw [if_pos h3];exact ⟨_,rfl,by simp [h3]⟩
 rw [if_neg h3,if_pos h0]
 obtain ⟨b,hb,hl⟩:=rletter_spec K (bt s 0)
 rw [hb,Option.bind_some]
 cases b with
 | false=>exact ⟨false,rfl,by simp only [Bool.false_eq_true,false_iff];exact fun h=>absurd (hl.2 h.2.2.2.1) (by decide)⟩
 | true =>
  rw [if_neg (by decide)]
  rcases ask_all (n:=s.size) (K:=K) (L:=c4.l0 K s) (p:=fun i=>moreP (bt s (i:Int))) (by omega) (fun m i hi=>by
   obtain ⟨q,hq,hm⟩:=rletter_spec K (bt s (i:Int))
   obtain ⟨q2,hq2,hm2⟩:=rdigit_spec K (bt s (i:Int))
   simp only [c4.l0]
   rw [if_pos (by omega),if_pos (Int.natCast_nonneg i),hq,Option.bind_some,wr (a:=(i:Int)+1) (by omega) (by omega)]
   unfold moreP
   cases q with
   | true=>exact .inl ⟨.inl (hm.1 rfl),rfl⟩
   | false =>
    simp only [Bool.not_false,if_true,hq2,Option.bind_some]
    cases q2 with
    | true=>exact .inl ⟨.inr (hm2.1 rfl),rfl⟩
    | false=>exact .inr ⟨fun h=>h.elim (fun h=>absurd (hm.2 h) (by decide)) (fun h=>absurd (hm2.2 h) (by decide)),rfl⟩) (fun m=>by simp only [c4.l0];rw [if_neg (by omega)]) with ⟨h4,h5⟩ | ⟨h4,h5⟩
  ·rw [h4];exact ⟨true,rfl,by simp only [true_iff];exact ⟨by omega,by omega,h3,hl.1 rfl,h5⟩⟩
  ·rw [h4];exact ⟨false,rfl,by simp only [Bool.false_eq_true,false_iff];exact fun h=>h5 h.2.2.2.2⟩
def namesP (ns:List ByteArray):Prop:=1≤ns.length∧ns.length≤64∧(∀ s ∈ ns,nameP s)∧ns.Nodup
theorem mget_cons {κ ν:Type} [DecidableEq κ] {p:κ×ν} {es:List (κ×ν)} {q:κ}:mget (p::es) q=if p.1=q then some p.2 else mget es q:=by
 unfold mget
 rw [List.find?_cons]
 by_cases h:p.1=q <;> simp [h]
theorem mgetD_mput {κ:Type} [DecidableEq κ] {es:List (κ×Bool)} {k q:κ}:mgetD false (mput es k true) q=true↔q=k∨mgetD false es q=true:=by
 unfold mgetD
 induction es with
 | nil =>
  rw [mput,mget_cons]
  by_cases h:k=q
  ·simp [h]
  ·simp [h,Ne.symm h,mget]
 | cons p es ih =>
  rw [mput]
  split
  ·rename_i h
   rw [mget_cons,mget_cons,h]
   by_cases h2:k=q
   ·simp [h2]
   ·simp [h2,Ne.symm h2]
  ·rename_i h
   rw [mget_cons,mget_cons]
   by_cases h2:p.1=q
   ·simp only [if_pos h2,Option.getD_some]
    refine ⟨.inr,fun h3=>h3.elim (fun h4=>absurd (h2.trans h4) h) id⟩
   ·simp only [if_neg h2]
    exact ih
open Classical in
theorem names_run (es:List (ByteArray×Bool)):∀ ns:List ByteArray,((∃ es',runL (fun es s=>if nameP s then if mgetD false es s=true then .inr false else .inl (mput es s true) else .inr false) es ns = .inl es')∧(∀ s ∈ ns,nameP s)∧ns.Nodup∧∀ s ∈ ns,¬ mgetD false es s=true)∨(runL (fun es s=>if nameP s then if mgetD false es s=true then .inr false else .inl (mput es s true) else .inr false) es ns=(.inr false:List (ByteArray×Bool) ⊕ Bool)∧¬ ((∀ s ∈ ns,nameP s)∧ns.Nodup∧∀ s ∈ ns,¬ mgetD false es s=true))
 | []=>.inl ⟨⟨es,rfl⟩,by simp,List.nodup_nil,by simp⟩
 | s::ns=>by
  unfold runL
  by_cases h1:nameP s
  ·by_cases h2:mgetD false es s=true
   ·simp only [if_pos h1,if_pos h2]
    exact .inr ⟨trivial,fun h=>h.2.2 s (.head _) h2⟩
   ·simp only [if_pos h1,if_neg h2]
    have hm:∀ q,mgetD false (mput es s true) q=true↔q=s∨mgetD false es q=true:=fun q=>mgetD_mput
    rcases names_run (mput es s true) ns with ⟨h3,h4,h5,h6⟩ | ⟨h3,h4⟩
    ·refine .inl ⟨h3,fun q hq=>?_,List.nodup_cons.2 ⟨fun hs=>h6 s hs ((hm s).2 (.inl rfl)),h5⟩,fun q hq=>?_⟩
     ·rcases List.mem_cons.1 hq with rfl | hq
      ·exact h1
      ·exact h4 q hq
     ·rcases List.mem_cons.1 hq with rfl | hq
      ·exact h2
      ·exact fun h=>h6 q hq ((hm q).2 (.inr h))
    ·refine .inr ⟨h3,fun ⟨a1,a2,a3⟩=>h4 ⟨fun q hq=>a1 q (.tail _ hq),(List.nodup_cons.1 a2).2,fun q hq h=>?_⟩⟩
     rcases (hm q).1 h with rfl | h
     ·exact (List.nodup_cons.1 a2).1 hq
     ·exact a3 q (.tail _ hq) h
  ·simp only [if_neg h1]
   exact .inr ⟨trivial,fun h=>h1 (h.1 s (.head _))⟩
open Classical in
theorem names_spec (K:Nat) (hK:1000≤K) (ns:List ByteArray):∃ b,V6 K ns=some b∧(b=true↔namesP ns):=by
 unfold V6 namesP
 split
 ·exact ⟨_,rfl,by simp;omega⟩
 split
 ·exact ⟨_,rfl,by simp;omega⟩
 rename_i h1 h2
 have hs:=scanL ns (V6.l0 K ns) (fun es s=>if nameP s then if mgetD false es s=true then .inr false else .inl (mput es s true) else .inr false) (fun _ _=>True) (fun m s i hi _=>by
  obtain ⟨b,hb,hp⟩:=lexName_spec K hK (rd ns (i:Int))
  simp only [V6.l0]
  rw [if_pos (by omega),if_pos (Int.natCast_nonneg i),hb,Option.bind_some,wr (a:=(i:Int)+1) (by omega) (by omega)]
  cases b with
  | false=>rw [if_pos (by decide),if_neg (fun h=>absurd (hp.2 h) (by decide))]
  | true =>
   rw [if_neg (by decide),if_pos (hp.1 rfl)]
   split <;> rfl) (fun m s=>by simp only [V6.l0];rw [if_neg (by omega)]) (fun _ _ _ _ _ _=>trivial) K (by omega) [] trivial
 rw [hs]
 rcases names_run [] ns with ⟨⟨es',h3⟩,h4,h5,h6⟩ | ⟨h3,h4⟩
 ·rw [h3];exact ⟨true,rfl,by simp only [true_iff];exact ⟨by omega,by omega,h4,h5⟩⟩
 ·rw [h3];exact ⟨false,rfl,by simp only [Bool.false_eq_true,false_iff];exact fun h=>h4 ⟨h.2.2.1,h.2.2.2,fun s _ h=>by simp [mgetD,mget] at h⟩⟩
theorem find_spec (K:Nat) (hK:1000≤K) (ns:List ByteArray) (hl:ns.length≤64) (s:ByteArray):M4 K ns s=some (match firstOf (fun i=>if rd ns (i:Int)=s then some (i:Int) else none) ns.length 0 with | some i=>i | none=>-1):=by
 have:=scan ns.length (M4.l0 K ns s) (fun i=>if rd ns (i:Int)=s then some (i:Int) else none) (fun m i hi=>by
  simp only [M4.l0]
  rw [if_pos (by omega),if_pos (Int.natCast_nonneg i),wr (a:=(i:Int)+1) (by omega) (by omega)]
  split <;> rfl) (fun m=>by simp only [M4.l0];rw [if_neg (by omega)]) ns.length 0 K (by omega) (by omega)
 rw [show ((0:Nat):Int)=0 from rfl] at this
 unfold M4
 rw [this]
 generalize firstOf _ _ _=o
 cases o <;> rfl
theorem find_at (K:Nat) (hK:1000≤K) (ns:List ByteArray) (hl:ns.length≤64) (i:Nat) (hi:i<ns.length):∃ q,M4 K ns (rd ns (i:Int))=some q∧(q=(i:Int)↔∀ j:Nat,j<i→rd ns (j:Int)≠rd ns (i:Int)):=by
 refine ⟨_,find_spec K hK ns hl _,?_⟩
 cases hf:firstOf (fun k=>if rd ns (k:Int)=rd ns (i:Int) then some (k:Int) else none) ns.length 0 with
 | none =>
  have:=firstOf_none.1 hf i (by omega) (by omega)
  rw [if_pos rfl] at this;cases this
 | some r =>
  obtain ⟨j,_,h2,h3,h4⟩:=firstOf_some hf
  split at h3
  ·rename_i he
   cases h3
   simp only
   constructor
   ·intro e k hk hke
    have e:j=i:=by omega
    subst e
    have:=h4 k (by omega) hk
    rw [if_pos hke] at this;cases this
   ·intro h
    rcases Nat.lt_trichotomy j i with hlt | rfl | hlt
    ·exact absurd he (h j hlt)
    ·rfl
    ·have:=h4 i (by omega) hlt
     rw [if_pos rfl] at this;cases this
  ·cases h3
theorem nodup_rd (ns:List ByteArray):ns.Nodup↔∀ i,i<ns.length→∀ j:Nat,j<i→rd ns (j:Int)≠rd ns (i:Int):=by
 have e:∀ i (h:i<ns.length),rd ns (i:Int)=ns[i]:=fun i h=>by rw [rd_nat,List.getD_eq_getElem?_getD,List.getElem?_eq_getElem h];rfl
 rw [List.Nodup,List.pairwise_iff_getElem]
 constructor
 ·intro h i hi j hj
  rw [e i hi,e j (by omega)]
  exact h j i (by omega) hi hj
 ·intro h i j hi hj hij
  have:=h j hj i hij
  rwa [e i hi,e j hj] at this
theorem rnames_spec (K:Nat) (hK:1000≤K) (g:Grammar) (h1:1≤g.Names.length) (h2:g.Names.length≤64):(f1.l0 K g K 0=some (.inl (g.Names.length:Int))∧namesP g.Names)∨(f1.l0 K g K 0=some (.inr false)∧¬ namesP g.Names):=by
 rcases ask_all (n:=g.Names.length) (K:=K) (L:=f1.l0 K g) (p:=fun i=>nameP (rd g.Names (i:Int))∧∀ j:Nat,j<i→rd g.Names (j:Int)≠rd g.Names (i:Int)) (by omega) (fun m i hi=>by
  obtain ⟨b,hb,hp⟩:=rName_spec K hK (rd g.Names (i:Int))
  obtain ⟨q,hq,hf⟩:=find_at K hK g.Names h2 i hi
  simp only [f1.l0]
  rw [if_pos (by omega),if_pos (Int.natCast_nonneg i),hb,Option.bind_some,wr (a:=(i:Int)+1) (by omega) (by omega)]
  cases b with
  | false=>exact .inr ⟨fun h=>absurd (hp.2 h.1) (by decide),rfl⟩
  | true =>
   rw [if_neg (by decide),hq,Option.bind_some]
   by_cases he:q=(i:Int)
   ·rw [if_neg (fun h=>h he)];exact .inl ⟨⟨hp.1 rfl,hf.1 he⟩,rfl⟩
   ·rw [if_pos he];exact .inr ⟨fun h=>he (hf.2 h.2),rfl⟩) (fun m=>by simp only [f1.l0];rw [if_neg (by omega)]) with ⟨h4,h5⟩ | ⟨h4,h5⟩
 ·refine .inl ⟨h4,h1,h2,fun s hs=>?_,(nodup_rd _).2 fun i hi=>(h5 i hi).2⟩
  obtain ⟨i,hi,rfl⟩:=List.getElem_of_mem hs
  have:=(h5 i hi).1
  rwa [rd_nat,List.getD_eq_getElem?_getD,List.getElem?_eq_getElem hi] at this
 ·exact .inr ⟨h4,fun h=>h5 fun i hi=>⟨h.2.2.1 _ (rd_mem (Int.natCast_nonneg i) (by omega)),(nodup_rd _).1 h.2.2.2 i hi⟩⟩
def symP (s:Symbol) (n:Int):Prop:=(s.Name = -1∧0≤s.Lo∧s.Lo≤s.Hi∧s.Hi≤255)∨(0≤s.Name∧s.Name<n∧s.Lo=0∧s.Hi=0)
theorem symbol_spec (K:Nat) (s:Symbol) (n:Int):∃ b,Q9 K s n=some b∧(b=true↔symP s n):=by
 unfold Q9 symP
 repeat' split
 all_goals refine ⟨_,rfl,?_⟩
 all_goals simp only [decide_eq_true_eq,Bool.false_eq_true,false_iff]
 all_goals omega
theorem rsymbol_spec (K:Nat) (s:Symbol) (n:Int):∃ b,k7 K s n=some b∧(b=true↔symP s n):=by
 unfold k7 symP
 repeat' split
 all_goals refine ⟨_,rfl,?_⟩
 all_goals simp only [decide_eq_true_eq,Bool.false_eq_true,false_iff]
 all_goals omega
instance (s:Symbol) (n:Int):Decidable (symP s n):=by unfold symP;infer_instance
def conjP (n:Int) (c:Conjunct):Prop:=c.Seq.length≤64∧∀ s ∈ c.Seq,symP s n
instance (n:Int) (c:Conjunct):Decidable (conjP n c):=by unfold conjP;infer_instance
def ruleP (n:Int) (r:Rule):Prop:=1≤r.Conj.length∧r.Conj.length≤8∧∀ c ∈ r.Conj,conjP n c
instance (n:Int) (r:Rule):Decidable (ruleP n r):=by unfold ruleP;infer_instance
def sumC:List Conjunct→Nat
 | []=>0
 | c::cs=>c.Seq.length+sumC cs
def sumR (r:Rule):Nat:=sumC r.Conj
theorem all_rd {T:Type} [Inhabited T] {xs:List T} {p:T→Prop}:(∀ i,i<xs.length→p (rd xs (i:Int)))↔∀ x ∈ xs,p x:=by
 constructor
 ·intro h x hx
  obtain ⟨i,hi,rfl⟩:=List.getElem_of_mem hx
  have:=h i hi
  rwa [rd_nat,List.getD_eq_getElem?_getD,List.getElem?_eq_getElem hi] at this
 ·intro h i hi
  exact h _ (rd_mem (Int.natCast_nonneg i) (by omega))
theorem ask_all2 {ρ:Type} {n K:Nat} {L:Nat→Int→Option (Int ⊕ ρ)} {p:Nat→Prop} {no:ρ} (hn:n<K) (step:∀ m i,i<n→(p i∧L (m+1) (i:Int)=L m ((i:Int)+1))∨(¬ p i∧L (m+1) (i:Int)=some (.inr no)))
  (stop:∀ m,L (m+1) (n:Int)=some (.inl (n:Int))):(L K 0=some (.inl (n:Int))∧∀ i,i<n→p i)∨(L K 0=some (.inr no)∧¬ ∀ i,i<n→p i):=by
 have key:∀ k i m,i+k=n→k<m→(L m (i:Int)=some (.inl (n:Int))∧∀ j,i≤j→j<n→p j)∨(L m (i:Int)=some (.inr no)∧¬ ∀ j,i≤j→j<n→p j):=by
  intro k
  induction k with
  | zero =>
   intro i m hi hm
   obtain ⟨m,rfl⟩:∃ q,m=q+1:=⟨m-1,by omega⟩
   have:i=n:=by omega
   subst this
   exact .inl ⟨stop m,fun j h1 h2=>by omega⟩
  | succ k ih =>
   intro i m hi hm
   obtain ⟨m,rfl⟩:∃ q,m=q+1:=⟨m-1,by omega⟩
   rcases step m i (by omega) with ⟨hp,he⟩ | ⟨hp,he⟩
   ·rw [he]
    have:=ih (i+1) m (by omega) (by omega)
    rw [show ((i+1:Nat):Int)=(i:Int)+1 by omega] at this
    rcases this with ⟨h1,h2⟩ | ⟨h1,h2⟩
    ·refine .inl ⟨h1,fun j q1 q2=>?_⟩
     rcases Nat.eq_or_lt_of_le q1 with rfl | q1
     ·exact hp
     ·exact h2 j q1 q2
    ·exact .inr ⟨h1,fun h=>h2 fun j q1 q2=>h j (by omega) q2⟩
   ·exact .inr ⟨he,fun h=>hp (h i (Nat.le_refl _) (by omega))⟩
 have:=key n 0 K (by omega) hn
 rw [show ((0:Nat):Int)=0 from rfl] at this
 rcases this with ⟨h1,h2⟩ | ⟨h1,h2⟩
 ·exact .inl ⟨h1,fun i hi=>h2 i (Nat.zero_le _) hi⟩
 ·exact .inr ⟨h1,fun h=>h2 fun j _ hj=>h j hj⟩
def ruleB (n:Int) (s:Int) (c:Conjunct):Int ⊕ (Int×Bool):=if conjP n c then .inl (s+(c.Seq.length:Int)) else .inr (0,false)
theorem ruleB_run (n:Int):∀ (cs:List Conjunct) (s:Int),(runL (ruleB n) s cs = .inl (s+(sumC cs:Int))∧∀ c ∈ cs,conjP n c)∨(runL (ruleB n) s cs = .inr (0,false)∧¬ ∀ c ∈ cs,conjP n c)
 | [],s=>.inl ⟨by simp [runL,sumC],by simp⟩
 | c::cs,s=>by
  unfold runL ruleB
  by_cases h:conjP n c
  ·rw [if_pos h]
   rcases ruleB_run n cs (s+(c.Seq.length:Int)) with ⟨h1,h2⟩ | ⟨h1,h2⟩
   ·refine .inl ⟨?_,fun q hq=>?_⟩
    ·show runL (ruleB n) _ cs=_
     rw [h1,sumC];push_cast;rw [Int.add_assoc]
    ·rcases List.mem_cons.1 hq with rfl | hq
     ·exact h
     ·exact h2 q hq
   ·exact .inr ⟨h1,fun h3=>h2 fun q hq=>h3 q (.tail _ hq)⟩
  ·rw [if_neg h];exact .inr ⟨rfl,fun h3=>h (h3 c (.head _))⟩
theorem sumC_le {n:Int}:∀ {cs:List Conjunct},(∀ c ∈ cs,conjP n c)→sumC cs≤64*cs.length
 | [],_=>by simp [sumC]
 | c::cs,h=>by
  have h1:=(h c (.head _)).1
  have h2:=sumC_le (cs:=cs) fun q hq=>h q (.tail _ hq)
  rw [sumC,List.length_cons];omega
theorem rule_spec (K:Nat) (hK:1000≤K) (r:Rule) (n:Int):(L5 K r n=some ((sumR r:Int),true)∧ruleP n r)∨(∃ q,L5 K r n=some (q,false)∧¬ ruleP n r):=by
 unfold L5
 by_cases h1:(r.Conj.length:Int)<1
 ·rw [if_pos h1];exact .inr ⟨_,rfl,fun h=>by have:=h.1;omega⟩
 rw [if_neg h1]
 by_cases h2:8<(r.Conj.length:Int)
 ·rw [if_pos h2];exact .inr ⟨_,rfl,fun h=>by have:=h.2.1;omega⟩
 rw [if_neg h2]
 have hs:=scanL r.Conj (L5.l0 K r n) (ruleB n) (fun i s=>0≤s∧s≤64*i) (fun m s i hi hI=>by
  unfold ruleB
  simp only [L5.l0]
  rw [if_pos (by omega),if_pos (Int.natCast_nonneg i),wr (a:=(i:Int)+1) (by omega) (by omega)]
  by_cases h64:64<((rd r.Conj (i:Int)).Seq.length:Int)
  ·rw [if_pos h64,if_neg (fun h=>by have:=h.1;omega)]
  rw [if_neg h64,wr (by omega) (by omega)]
  rcases ask_all2 (n:=(rd r.Conj (i:Int)).Seq.length) (K:=K) (L:=L5.l1 K r n i) (p:=fun j=>symP (rd (rd r.Conj (i:Int)).Seq (j:Int)) n) (by omega) (fun m j hj=>by
   obtain ⟨b,hb,hp⟩:=symbol_spec K (⟨(rd ((rd r.Conj (i:Int)).Seq) (j:Int)).Name,(rd ((rd r.Conj (i:Int)).Seq) (j:Int)).Lo,(rd ((rd r.Conj (i:Int)).Seq) (j:Int)).Hi⟩:Symbol) n
   simp only [L5.l1]
   rw [if_pos (by omega),if_pos (Int.natCast_nonneg j),hb,Option.bind_some,wr (a:=(j:Int)+1) (by omega) (by omega)]
   cases b with
   | true=>exact .inl ⟨hp.1 rfl,rfl⟩
   | false=>exact .inr ⟨fun h=>absurd (hp.2 h) (by decide),rfl⟩) (fun m=>by simp only [L5.l1];rw [if_neg (by omega)]) with ⟨h4,h5⟩ | ⟨h4,h5⟩
  ·rw [h4,if_pos ⟨by omega,all_rd.1 h5⟩];rfl
  ·rw [h4,if_neg (fun h=>h5 (all_rd.2 h.2))];rfl) (fun m s=>by simp only [L5.l0];rw [if_neg (by omega)]) (fun s i hi hI s' h=>by
   unfold ruleB at h
   split at h
   ·rename_i hc
    cases h
    have:=hc.1
    exact ⟨by omega,by push_cast;omega⟩
   ·cases h) K (by omega) 0 ⟨by omega,by omega⟩
 rw [hs]
 rcases ruleB_run n r.Conj 0 with ⟨h4,h5⟩ | ⟨h4,h5⟩
 ·rw [h4];exact .inl ⟨by simp only [brk,Option.bind_some,Int.zero_add];rfl,by omega,by omega,h5⟩
 ·rw [h4];exact .inr ⟨0,rfl,fun h=>h5 h.2.2⟩
theorem rrule_spec (K:Nat) (hK:1000≤K) (r:Rule) (n:Int):(V1 K r n=some ((sumR r:Int),true)∧ruleP n r)∨(∃ q,V1 K r n=some (q,false)∧¬ ruleP n r):=by
 unfold V1
 by_cases h1:(r.Conj.length:Int)<1
 ·rw [if_pos h1];exact .inr ⟨_,rfl,fun h=>by have:=h.1;omega⟩
 rw [if_neg h1]
 by_cases h2:8<(r.Conj.length:Int)
 ·rw [if_pos h2];exact .inr ⟨_,rfl,fun h=>by have:=h.2.1;omega⟩
 rw [if_neg h2]
 have hs:=scanL r.Conj (V1.l0 K r n) (ruleB n) (fun i s=>0≤s∧s≤64*i) (fun m s i hi hI=>by
  unfold ruleB
  simp only [V1.l0]
  rw [if_pos (by omega),if_pos (Int.natCast_nonneg i),wr (a:=(i:Int)+1) (by omega) (by omega)]
  by_cases h64:64<((rd r.Conj (i:Int)).Seq.length:Int)
  ·rw [if_pos h64,if_neg (fun h=>by have:=h.1;omega)]
  rw [if_neg h64,wr (by omega) (by omega)]
  rcases ask_all2 (n:=(rd r.Conj (i:Int)).Seq.length) (K:=K) (L:=V1.l1 K r n i) (p:=fun j=>symP (rd (rd r.Conj (i:Int)).Seq (j:Int)) n) (by omega) (fun m j hj=>by
   obtain ⟨b,hb,hp⟩:=rsymbol_spec K (rd ((rd r.Conj (i:Int)).Seq) (j:Int)) n
   simp only [V1.l1]
   rw [if_pos (by omega),if_pos (Int.natCast_nonneg j),hb,Option.bind_some,wr (a:=(j:Int)+1) (by omega) (by omega)]
   cases b with
   | true=>exact .inl ⟨hp.1 rfl,rfl⟩
   | false=>exact .inr ⟨fun h=>absurd (hp.2 h) (by decide),rfl⟩) (fun m=>by simp only [V1.l1];rw [if_neg (by omega)]) with ⟨h4,h5⟩ | ⟨h4,h5⟩
  ·rw [h4,if_pos ⟨by omega,all_rd.1 h5⟩];rfl
  ·rw [h4,if_neg (fun h=>h5 (all_rd.2 h.2))];rfl) (fun m s=>by simp only [V1.l0];rw [if_neg (by omega)]) (fun s i hi hI s' h=>by
   unfold ruleB at h
   split at h
   ·rename_i hc
    cases h
    have:=hc.1
    exact ⟨by omega,by push_cast;omega⟩
   ·cases h) K (by omega) 0 ⟨by omega,by omega⟩
 rw [hs]
 rcases ruleB_run n r.Conj 0 with ⟨h4,h5⟩ | ⟨h4,h5⟩
 ·rw [h4];exact .inl ⟨by simp only [brk,Option.bind_some,Int.zero_add];rfl,by omega,by omega,h5⟩
 ·rw [h4];exact .inr ⟨0,rfl,fun h=>h5 h.2.2⟩
def chainP (n:Int):Int→List Rule→Prop
 | h,[]=>h=n-1
 | h,r::rs=>ruleP n r∧(r.Head=h∨r.Head=h+1)∧chainP n r.Head rs
def total:List Rule→Nat
 | []=>0
 | r::rs=>sumR r+total rs
def mayP (g:Grammar):Prop:=namesP g.Names∧0≤g.Start∧g.Start<(g.Names.length:Int)∧1≤g.Rules.length∧g.Rules.length≤256∧(rd g.Rules 0).Head=0∧chainP (g.Names.length:Int) (-1) g.Rules∧total g.Rules≤1024
def gB (n:Int) (s:Int×Int) (r:Rule):(Int×Int) ⊕ Bool:=if ruleP n r then if r.Head<s.1 then .inr false else if s.1+1<r.Head then .inr false else if 1024<s.2+(sumR r:Int) then .inr false else .inl (r.Head,s.2+(sumR r:Int)) else .inr false
theorem gB_run (n:Int):∀ (rs:List Rule) (s:Int×Int),s.2≤1024→((∃ s',runL (gB n) s rs = .inl s'∧(s'.1=n-1↔chainP n s.1 rs))∧s.2+(total rs:Int)≤1024)∨(runL (gB n) s rs = .inr false∧¬ (chainP n s.1 rs∧s.2+(total rs:Int)≤1024))
 | [],s,hs=>.inl ⟨⟨s,rfl,Iff.rfl⟩,by simp [total];omega⟩
 | r::rs,s,hs=>by
  unfold runL gB chainP total
  by_cases h1:ruleP n r
  ·rw [if_pos h1]
   by_cases h2:r.Head<s.1
   ·rw [if_pos h2];exact .inr ⟨rfl,fun h=>by have:=h.1.2.1;omega⟩
   rw [if_neg h2]
   by_cases h3:s.1+1<r.Head
   ·rw [if_pos h3];exact .inr ⟨rfl,fun h=>by have:=h.1.2.1;omega⟩
   rw [if_neg h3]
   by_cases h4:1024<s.2+(sumR r:Int)
   ·rw [if_pos h4];exact .inr ⟨rfl,fun h=>by have:=h.2;push_cast at this;omega⟩
   rw [if_neg h4]
   rcases gB_run n rs (r.Head,s.2+(sumR r:Int)) (by simp only;omega) with ⟨⟨s',h5,h6⟩,h7⟩ | ⟨h5,h6⟩
   ·refine .inl ⟨⟨s',h5,h6.trans ⟨fun h=>⟨h1,by omega,h⟩,fun h=>h.2.2⟩⟩,?_⟩
    simp only at h7;push_cast;omega
   ·refine .inr ⟨h5,fun h=>h6 ⟨h.1.2.2,?_⟩⟩
    have:=h.2;push_cast at this;simp only;omega
  ·rw [if_neg h1];exact .inr ⟨rfl,fun h=>h1 h.1.1⟩
theorem sumR_le {n:Int} {r:Rule} (h:ruleP n r):sumR r≤512:=by
 have:=sumC_le h.2.2
 have:=h.2.1
 unfold sumR;omega
theorem gMay_spec (K:Nat) (hK:1000≤K) (g:Grammar):∃ b,G6 K g=some b∧(b=true↔mayP g):=by
 unfold G6 mayP
 obtain ⟨b,hb,hn⟩:=names_spec K hK g.Names
 rw [hb,Option.bind_some]
 cases b with
 | false=>exact ⟨_,rfl,by simp only [Bool.false_eq_true,false_iff];exact fun h=>absurd (hn.2 h.1) (by decide)⟩
 | true =>
 rw [if_neg (by decide)]
 have hnm:=hn.1 rfl
 by_cases h1:g.Start<0
 ·rw [if_pos h1];exact ⟨_,rfl,by simp only [Bool.false_eq_true,false_iff];exact fun h=>by have:=h.2.1;omega⟩
 rw [if_neg h1]
 by_cases h2:(g.Names.length:Int)≤g.Start
 ·rw [if_pos h2];exact ⟨_,rfl,by simp only [Bool.false_eq_true,false_iff];exact fun h=>by have:=h.2.2.1;omega⟩
 rw [if_neg h2]
 by_cases h3:(g.Rules.length:Int)<1
 ·rw [if_pos h3];exact ⟨_,rfl,by simp only [Bool.false_eq_true,false_iff];exact fun h=>by have:=h.2.2.2.1;omega⟩
 rw [if_neg h3]
 by_cases h4:256<(g.Rules.length:Int)
 ·rw [if_pos h4];exact ⟨_,rfl,by simp only [Bool.false_eq_true,false_iff];exact fun h=>by have:=h.2.2.2.2.1;omega⟩
 rw [if_neg h4]
 have hs:=scanL (τ:=Int×Int) (ρ:=Bool) g.Rules (fun m s=>(G6.l0 K g m (s.1.1,s.1.2,s.2)).map fun | .inl (a,b,c)=>.inl ((a,b),c) | .inr r=>.inr r) (gB (g.Names.length:Int)) (fun i s=>-1≤s.1∧s.1≤i∧0≤s.2∧s.2≤1024) (fun m s i hi hI=>by
  unfold gB
  simp only [G6.l0]
  rw [if_pos (by omega),if_pos (Int.natCast_nonneg i),wr (a:=(i:Int)+1) (by omega) (by omega)]
  rcases rule_spec K hK (rd g.Rules (i:Int)) (g.Names.length:Int) with ⟨h5,h6⟩ | ⟨q,h5,h6⟩
  ·have:=sumR_le h6
   rw [h5,Option.bind_some,if_pos h6]
   simp only [Bool.not_true,Bool.false_eq_true,if_false]
   rw [wr (a:=s.1+1) (by omega) (by omega),wr (a:=s.2+(sumR (rd g.Rules (i:Int)):Int)) (by omega) (by omega)]
   repeat' split
   all_goals first | rfl | (rename_i h;cases h;done) | skip
   all_goals (rename_i h;cases h;rfl)
  ·rw [h5,Option.bind_some,if_neg h6];rfl) (fun m s=>by simp only [G6.l0];rw [if_neg (by omega)];rfl) (fun s i hi hI s' h=>by
  unfold gB at h
  split at h
  ·split at h
   ·cases h
   ·split at h
    ·cases h
    ·split at h
     ·cases h
     ·cases h;exact ⟨by simp only;omega,by simp only;push_cast;omega,by simp only;omega,by simp only;omega⟩
  ·cases h) K (by omega) (-1,0) ⟨by decide,by decide,by decide,by decide⟩
 have hpos:0<(g.Rules.length:Int):=by omega
 rcases gB_run (g.Names.length:Int) g.Rules (-1,0) (by decide) with ⟨⟨s',h5,h6⟩,h7⟩ | ⟨h5,h6⟩
 ·rw [h5] at hs
  have e:∃ c,G6.l0 K g K (-1,0,0)=some (.inl (s'.1,s'.2,c)):=by
   simp only at hs
   cases hl:G6.l0 K g K (-1,0,0) with
   | none=>rw [hl] at hs;cases hs
   | some x =>
    rw [hl] at hs
    cases x with
    | inl x=>obtain ⟨a,b,c⟩:=x;simp only [Option.map_some,Option.some.injEq,Sum.inl.injEq,Prod.mk.injEq] at hs;exact ⟨c,by rw [← hs.1]⟩
    | inr q=>cases hs
  obtain ⟨c,hl⟩:=e
  rw [hl]
  simp only [brk,Option.bind_some]
  rw [if_pos hpos]
  have hn64:=hnm.2.1
  by_cases h8:(rd g.Rules 0).Head=0
  ·rw [if_pos h8]
   refine ⟨_,rfl,?_⟩
   rw [decide_eq_true_eq,wr (by omega) (by omega),h6]
   simp only at h7
   exact ⟨fun h=>⟨hnm,by omega,by omega,by omega,by omega,h8,h,by omega⟩,fun h=>h.2.2.2.2.2.2.1⟩
  ·rw [if_neg h8]
   exact ⟨_,rfl,by simp only [Bool.false_eq_true,false_iff];exact fun h=>h8 h.2.2.2.2.2.1⟩
 ·rw [h5] at hs
  have e:G6.l0 K g K (-1,0,0)=some (.inr false):=by
   simp only at hs
   cases hl:G6.l0 K g K (-1,0,0) with
   | none=>rw [hl] at hs;cases hs
   | some x =>
    rw [hl] at hs
    cases x with
    | inl x=>cases hs
    | inr q=>cases hs;rfl
  rw [e]
  refine ⟨false,rfl,?_⟩
  simp only [Bool.false_eq_true,false_iff]
  exact fun h=>h6 ⟨h.2.2.2.2.2.2.1,by have:=h.2.2.2.2.2.2.2;simp only;omega⟩
theorem chain_le {n:Int}:∀ {rs:List Rule} {h:Int},chainP n h rs→h≤n-1
 | [],h,hc=>by rw [chainP] at hc;omega
 | r::rs,h,hc=>by
  rw [chainP] at hc
  have:=chain_le hc.2.2
  omega
def rB (n:Int) (s:Int×Int) (r:Rule):(Int×Int) ⊕ Bool:=if r.Head<0 then .inr false else if r.Head≠s.1∧r.Head≠s.1+1 then .inr false else if n≤r.Head then .inr false else if ruleP n r then .inl (r.Head,s.2+(sumR r:Int)) else .inr false
theorem rB_run (n:Int):∀ (rs:List Rule) (s:Int×Int),0≤s.1∨(∃ r rs',rs=r::rs'∧(0≤r.Head∨¬ chainP n s.1 rs))∨rs=[]→(∃ s',runL (rB n) s rs = .inl s'∧(s'.1=n-1↔chainP n s.1 rs)∧s'.2=s.2+(total rs:Int))∨(runL (rB n) s rs = .inr false∧(¬ chainP n s.1 rs))
 | [],s,hs=>.inl ⟨s,rfl,Iff.rfl,by simp [total]⟩
 | r::rs,s,hs=>by
  unfold runL rB total
  by_cases h0:r.Head<0
  ·rw [if_pos h0]
   refine .inr ⟨rfl,fun h=>?_⟩
   rw [chainP] at h
   rcases hs with hs | ⟨r',rs',e,hs | hs⟩ | e
   ·omega
   ·cases e;omega
   ·cases e;exact hs (by rw [chainP];exact h)
   ·cases e
  rw [if_neg h0]
  by_cases h2:r.Head≠s.1∧r.Head≠s.1+1
  ·rw [if_pos h2];exact .inr ⟨rfl,fun h=>by rw [chainP] at h;omega⟩
  rw [if_neg h2]
  by_cases h3:n≤r.Head
  ·rw [if_pos h3];exact .inr ⟨rfl,fun h=>by rw [chainP] at h;have:=chain_le h.2.2;omega⟩
  rw [if_neg h3]
  by_cases h1:ruleP n r
  ·rw [if_pos h1]
   rcases rB_run n rs (r.Head,s.2+(sumR r:Int)) (.inl (by simp only;omega)) with ⟨s',h5,h6,h7⟩ | ⟨h5,h6⟩
   ·refine .inl ⟨s',h5,h6.trans ?_,by rw [h7];simp only;push_cast;omega⟩
    rw [chainP]
    exact ⟨fun h=>⟨h1,by omega,h⟩,fun h=>h.2.2⟩
   ·exact .inr ⟨h5,fun h=>h6 (by rw [chainP] at h;exact h.2.2)⟩
  ·rw [if_neg h1];exact .inr ⟨rfl,fun h=>by rw [chainP] at h;exact h1 h.1⟩
theorem rMay_spec (K:Nat) (hK:1000≤K) (g:Grammar):∃ b,f1 K g=some b∧(b=true↔mayP g):=by
 unfold f1 mayP
 by_cases h1:(g.Names.length:Int)<1
 ·rw [if_pos h1];exact ⟨_,rfl,by simp only [Bool.false_eq_true,false_iff];exact fun h=>by have:=h.1.1;omega⟩
 rw [if_neg h1]
 by_cases h2:64<(g.Names.length:Int)
 ·rw [if_pos h2];exact ⟨_,rfl,by simp only [Bool.false_eq_true,false_iff];exact fun h=>by have:=h.1.2.1;omega⟩
 rw [if_neg h2]
 by_cases h3:g.Start<0
 ·rw [if_pos h3];exact ⟨_,rfl,by simp only [Bool.false_eq_true,false_iff];exact fun h=>by have:=h.2.1;omega⟩
 rw [if_neg h3]
 by_cases h4:(g.Names.length:Int)≤g.Start
 ·rw [if_pos h4];exact ⟨_,rfl,by simp only [Bool.false_eq_true,false_iff];exact fun h=>by have:=h.2.2.1;omega⟩
 rw [if_neg h4]
 by_cases h5:(g.Rules.length:Int)<1
 ·rw [if_pos h5];exact ⟨_,rfl,by simp only [Bool.false_eq_true,false_iff];exact fun h=>by have:=h.2.2.2.1;omega⟩
 rw [if_neg h5]
 by_cases h6:256<(g.Rules.length:Int)
 ·rw [if_pos h6];exact ⟨_,rfl,by simp only [Bool.false_eq_true,false_iff];exact fun h=>by have:=h.2.2.2.2.1;omega⟩
 rw [if_neg h6]
 rcases rnames_spec K hK g (by omega) (by omega) with ⟨h7,h8⟩ | ⟨h7,h8⟩
 rotate_left
 ·rw [h7];exact ⟨false,rfl,by simp only [Bool.false_eq_true,false_iff];exact fun h=>h8 h.1⟩
 rw [h7]
 simp only [brk,Option.bind_some]
 have hs:=scanL (τ:=Int×Int) (ρ:=Bool) g.Rules (fun m s=>(f1.l1 K g m (s.1.1,s.1.2,s.2)).map fun | .inl (a,b,c)=>.inl ((a,b),c) | .inr r=>.inr r) (rB (g.Names.length:Int)) (fun i s=>-1≤s.1∧s.1≤i∧0≤s.2∧s.2≤512*i) (fun m s i hi hI=>by
  unfold rB
  simp only [f1.l1]
  rw [if_pos (by omega),if_pos (Int.natCast_nonneg i),wr (a:=(i:Int)+1) (by omega) (by omega),wr (a:=s.1+1) (by omega) (by omega)]
  by_cases q0:(rd g.Rules (i:Int)).Head<0
  ·rw [if_pos q0,if_pos q0];rfl
  rw [if_neg q0,if_neg q0]
  by_cases q1:(rd g.Rules (i:Int)).Head≠s.1∧(rd g.Rules (i:Int)).Head≠s.1+1
  ·rw [if_pos q1.1,if_pos q1.2,if_pos q1];rfl
  rw [if_neg q1]
  by_cases q2:(g.Names.length:Int)≤(rd g.Rules (i:Int)).Head
  ·rw [if_pos q2,if_pos q2]
   by_cases q3:(rd g.Rules (i:Int)).Head≠s.1
   ·rw [if_pos q3,if_neg (fun h=>q1 ⟨q3,h⟩)];rfl
   ·rw [if_neg q3];rfl
  rw [if_neg q2,if_neg q2]
  have e:(if (rd g.Rules (i:Int)).Head≠s.1 then if (rd g.Rules (i:Int)).Head≠s.1+1 then some (.inr (.inr false)) else some (.inl ()) else some (.inl ()):Option (Unit ⊕ ((Int×Int×Int) ⊕ Bool)))=some (.inl ()):=by
   by_cases q3:(rd g.Rules (i:Int)).Head≠s.1
   ·rw [if_pos q3,if_neg (fun h=>q1 ⟨q3,h⟩)]
   ·rw [if_neg q3]
  rw [e]
  simp only [brk,Option.bind_some]
  rcases rrule_spec K hK (rd g.Rules (i:Int)) (g.Names.length:Int) with ⟨q5,q6⟩ | ⟨q,q5,q6⟩
  ·have:=sumR_le q6
   rw [q5,Option.bind_some,if_pos q6]
   simp only [Bool.not_true,Bool.false_eq_true,if_false]
   rw [wr (a:=s.2+(sumR (rd g.Rules (i:Int)):Int)) (by omega) (by omega)]
  ·rw [q5,Option.bind_some,if_neg q6];rfl) (fun m s=>by simp only [f1.l1];rw [if_neg (by omega)];rfl) (fun s i hi hI s' h=>by
  unfold rB at h
  split at h
  ·cases h
  split at h
  ·cases h
  split at h
  ·cases h
  split at h
  ·rename_i hr
   have:=sumR_le hr
   cases h
   refine ⟨by simp only;omega,by simp only;push_cast;omega,by simp only;omega,by simp only;push_cast;omega⟩
  ·cases h) K (by omega) (-1,0) ⟨by decide,by decide,by decide,by decide⟩
 have hne:∃ r rs',g.Rules=r::rs':=by
  cases hr:g.Rules with
  | nil=>rw [hr] at h5;simp at h5
  | cons r rs'=>exact ⟨r,rs',rfl⟩
 obtain ⟨r0,rs0,hr0⟩:=hne
 have hrd:rd g.Rules 0=r0:=by rw [hr0];rfl
 by_cases hneg:r0.Head<0
 ·have e:runL (rB (g.Names.length:Int)) (-1,0) g.Rules = .inr false:=by rw [hr0];unfold runL rB;rw [if_pos hneg]
  rw [e] at hs
  have e2:f1.l1 K g K (-1,0,0)=some (.inr false):=by
   simp only at hs
   cases hl:f1.l1 K g K (-1,0,0) with
   | none=>rw [hl] at hs;cases hs
   | some x =>
    rw [hl] at hs
    cases x with
    | inl x=>cases hs
    | inr q=>cases hs;rfl
  rw [e2]
  exact ⟨false,rfl,by simp only [Bool.false_eq_true,false_iff];exact fun h=>by have:=h.2.2.2.2.2.1;rw [hrd] at this;omega⟩
 rcases rB_run (g.Names.length:Int) g.Rules (-1,0) (.inr (.inl ⟨r0,rs0,hr0,.inl (by omega)⟩)) with ⟨s',q5,q6,q7⟩ | ⟨q5,q6⟩
 ·rw [q5] at hs
  have e:∃ c,f1.l1 K g K (-1,0,0)=some (.inl (s'.1,s'.2,c)):=by
   simp only at hs
   cases hl:f1.l1 K g K (-1,0,0) with
   | none=>rw [hl] at hs;cases hs
   | some x =>
    rw [hl] at hs
    cases x with
    | inl x=>obtain ⟨a,b,c⟩:=x;simp only [Option.map_some,Option.some.injEq,Sum.inl.injEq,Prod.mk.injEq] at hs;exact ⟨c,by rw [← hs.1]⟩
    | inr q=>cases hs
  obtain ⟨c,hl⟩:=e
  rw [hl]
  simp only [Option.bind_some]
  rw [wr (by omega) (by omega)]
  simp only at q7 q6
  by_cases q8:s'.1=(g.Names.length:Int)-1
  ·rw [if_pos q8]
   refine ⟨_,rfl,?_⟩
   rw [decide_eq_true_eq]
   have hc:=q6.1 q8
   have hz:r0.Head=0:=by
    have:=hc;rw [hr0,chainP] at this;omega
   exact ⟨fun h=>⟨h8,by omega,by omega,by omega,by omega,hrd ▸ hz,hc,by omega⟩,fun h=>by have:=h.2.2.2.2.2.2.2;omega⟩
  ·rw [if_neg q8]
   exact ⟨_,rfl,by simp only [Bool.false_eq_true,false_iff];exact fun h=>q8 (q6.2 h.2.2.2.2.2.2.1)⟩
 ·rw [q5] at hs
  have e:f1.l1 K g K (-1,0,0)=some (.inr false):=by
   simp only at hs
   cases hl:f1.l1 K g K (-1,0,0) with
   | none=>rw [hl] at hs;cases hs
   | some x =>
    rw [hl] at hs
    cases x with
    | inl x=>cases hs
    | inr q=>cases hs;rfl
  rw [e]
  exact ⟨false,rfl,by simp only [Bool.false_eq_true,false_iff];exact fun h=>q6 h.2.2.2.2.2.2.1⟩
open S Go.Sort
theorem mput_keys {κ ν:Type} [DecidableEq κ] {es:List (κ×ν)} {k:κ} {v:ν}:∀ e,e ∈ (mput es k v).map (·.1)↔e ∈ es.map (·.1)∨e=k:=by
 induction es with
 | nil=>intro e;simp [mput]
 | cons p es ih =>
  intro e
  rw [mput]
  split
  ·rename_i h;subst h;simp only [List.map_cons,List.mem_cons]
   constructor
   ·rintro (h | h)
    ·exact .inl (.inl h)
    ·exact .inl (.inr h)
   ·rintro ((h | h) | h)
    ·exact .inl h
    ·exact .inr h
    ·exact .inl h
  ·simp only [List.map_cons,List.mem_cons,ih e]
   constructor
   ·rintro (h | h | h)
    ·exact .inl (.inl h)
    ·exact .inl (.inr h)
    ·exact .inr h
   ·rintro ((h | h) | h)
    ·exact .inl h
    ·exact .inr (.inl h)
    ·exact .inr (.inr h)
theorem mput_nodup {κ ν:Type} [DecidableEq κ] {es:List (κ×ν)} {k:κ} {v:ν} (h:(es.map (·.1)).Nodup):((mput es k v).map (·.1)).Nodup:=by
 induction es with
 | nil=>simp [mput]
 | cons p es ih =>
  rw [List.map_cons,List.nodup_cons] at h
  rw [mput]
  split
  ·rename_i hp;subst hp;simp only [List.map_cons,List.nodup_cons];exact h
  ·rename_i hp
   simp only [List.map_cons,List.nodup_cons]
   refine ⟨fun hm=>?_,ih h.2⟩
   rcases (mput_keys _).1 hm with hm | hm
   ·exact h.1 hm
   ·exact hp hm
theorem firstOf_no {ρ:Type} (k i:Nat):firstOf (fun _=>(none:Option ρ)) k i=none:=firstOf_none.2 fun _ _ _=>rfl
theorem reach_le:reachBytes=140737488351232:=by decide
def SzG (g:Grammar):Prop:=g.Names.length*16≤140737488351232∧g.Rules.length*32≤140737488351232∧∀ r ∈ g.Rules,r.Conj.length*32≤140737488351232∧∀ c ∈ r.Conj,c.Seq.length*24≤140737488351232
theorem SzG_wf {g:Grammar} (w:fb g):SzG g:=by
 obtain ⟨_,⟨w1,_⟩,w2,w3⟩:=w
 rw [reach_le] at w1 w2
 refine ⟨w1,w2,fun r hr=>?_⟩
 obtain ⟨_,w4,w5⟩:=w3 r hr
 rw [reach_le] at w4
 refine ⟨w4,fun c hc=>?_⟩
 have w6:=(w5 c hc).2.1
 rw [reach_le] at w6
 exact w6
def KW:Nat:=140737488355328
theorem take_snoc {T:Type} [Inhabited T] {xs:List T} {i:Nat} (hi:i<xs.length):xs.take i++[rd xs (i:Int)]=xs.take (i+1):=by
 have e:rd xs (i:Int)=xs[i]:=by rw [rd_nat,List.getD_eq_getElem?_getD,List.getElem?_eq_getElem hi];rfl
 rw [e,List.take_append_getElem]
theorem copy_l1 (K:Nat) (hK:KW≤K) (g:Grammar) (hg:SzG g) (i:Nat) (hi:i<g.Rules.length):∀ (k j m:Nat),j+k=(rd g.Rules (i:Int)).Conj.length→k<m→M0.l1 K g i m ((rd g.Rules (i:Int)).Conj.take j,(j:Int))=some ((rd g.Rules (i:Int)).Conj,((rd g.Rules (i:Int)).Conj.length:Int))
 | 0,j,m,hj,hm=>by
  obtain ⟨m,rfl⟩:∃ q,m=q+1:=⟨m-1,by omega⟩
  simp only [M0.l1]
  rw [if_neg (by omega),List.take_of_length_le (by omega)]
  have:j=(rd g.Rules (i:Int)).Conj.length:=by omega
  rw [this]
 | k+1,j,m,hj,hm=>by
  obtain ⟨m,rfl⟩:∃ q,m=q+1:=⟨m-1,by omega⟩
  have ih:=copy_l1 K hK g hg i hi k (j+1) m (by omega) (by omega)
  have hr:=hg.2.2 _ (rd_mem (xs:=g.Rules) (i:=(i:Int)) (by omega) (by omega))
  have hc:=hr.2 _ (rd_mem (xs:=(rd g.Rules (i:Int)).Conj) (i:=(j:Int)) (by omega) (by omega))
  simp only [M0.l1]
  rw [if_pos (by omega),if_pos (by omega),if_pos (by simp only [List.length_nil];omega),if_pos (by rw [List.length_take];omega),wr (a:=(j:Int)+1) (by omega) (by omega),List.nil_append]
  have e:(⟨(rd (rd g.Rules (i:Int)).Conj (j:Int)).Neg,(rd (rd g.Rules (i:Int)).Conj (j:Int)).Seq⟩:Conjunct)=rd (rd g.Rules (i:Int)).Conj (j:Int):=rfl
  rw [e,take_snoc (by omega)]
  simpa using ih
theorem copy_l0 (K:Nat) (hK:KW≤K) (g:Grammar) (hg:SzG g):∀ (k i m:Nat),i+k=g.Rules.length→k<m→M0.l0 K g m (g.Rules.take i,(i:Int))=some (g.Rules,(g.Rules.length:Int))
 | 0,i,m,hi,hm=>by
  obtain ⟨m,rfl⟩:∃ q,m=q+1:=⟨m-1,by omega⟩
  simp only [M0.l0]
  rw [if_neg (by omega),List.take_of_length_le (by omega)]
  have:i=g.Rules.length:=by omega
  rw [this]
 | k+1,i,m,hi,hm=>by
  obtain ⟨m,rfl⟩:∃ q,m=q+1:=⟨m-1,by omega⟩
  have ih:=copy_l0 K hK g hg k (i+1) m (by omega) (by omega)
  have hr:=hg.2.2 _ (rd_mem (xs:=g.Rules) (i:=(i:Int)) (by omega) (by omega))
  have h2:=hg.2.1
  have h1:=copy_l1 K hK g hg i (by omega) (rd g.Rules (i:Int)).Conj.length 0 K (by omega) (by unfold KW at hK;omega)
  rw [show ((0:Nat):Int)=0 from rfl,List.take_zero] at h1
  simp only [M0.l0]
  rw [if_pos (by omega),if_pos (by omega),h1,Option.bind_some]
  simp only
  rw [if_pos (by rw [List.length_take];omega),wr (a:=(i:Int)+1) (by omega) (by omega)]
  have e:(⟨(rd g.Rules (i:Int)).Head,(rd g.Rules (i:Int)).Conj⟩:Rule)=rd g.Rules (i:Int):=rfl
  rw [e,take_snoc (by omega)]
  simpa using ih
theorem Copy_spec (K:Nat) (hK:KW≤K) (g:Grammar) (hg:SzG g):M0 K g=some g:=by
 have h1:=copy_l0 K hK g hg g.Rules.length 0 K (by omega) (by have:=hg.2.1;unfold KW at hK;omega)
 rw [show ((0:Nat):Int)=0 from rfl,List.take_zero] at h1
 have h2:=hg.1
 unfold M0
 rw [if_pos (by simp only [List.length_nil];omega),Option.bind_some,h1,Option.bind_some]
 rfl
theorem scan_none {ρ:Type} {n K:Nat} {L:Nat→Int→Option (Int ⊕ ρ)} (hn:n<K) (step:∀ m i,i<n→L (m+1) (i:Int)=L m ((i:Int)+1)) (stop:∀ m,L (m+1) (n:Int)=some (.inl (n:Int))):L K 0=some (.inl (n:Int)):=by
 have:=scan n L (fun _=>none) (fun m i hi=>step m i hi) stop n 0 K (by omega) hn
 rw [show ((0:Nat):Int)=0 from rfl,firstOf_no] at this
 exact this
theorem SameTexts_refl (K:Nat) (xs:List ByteArray) (h:xs.length<K) (hl:xs.length≤140737488351232):L3 K xs xs=some true:=by
 unfold L3
 rw [if_neg (fun h=>h rfl),scan_none (L:=L3.l0 K xs xs) h (fun m i hi=>by
  simp only [L3.l0]
  rw [if_pos (by omega),if_pos (by omega),if_pos (by omega),if_neg (fun h=>h rfl),wr (a:=(i:Int)+1) (by omega) (by omega)]) (fun m=>by simp only [L3.l0];rw [if_neg (by omega)])]
 rfl
theorem SameSymbols_refl (K:Nat) (xs:List Symbol) (h:xs.length<K) (hl:xs.length≤140737488351232):V2 K xs xs=some true:=by
 unfold V2
 rw [if_neg (fun h=>h rfl),scan_none (L:=V2.l0 K xs xs) h (fun m i hi=>by
  simp only [V2.l0]
  rw [if_pos (by omega),if_pos (by omega),if_pos (by omega),if_neg (fun h=>h rfl),wr (a:=(i:Int)+1) (by omega) (by omega)]) (fun m=>by simp only [V2.l0];rw [if_neg (by omega)])]
 rfl
theorem SameRule_refl (K:Nat) (hK:KW≤K) (r:Rule) (h1:r.Conj.length*32≤140737488351232) (h2:∀ c ∈ r.Conj,c.Seq.length*24≤140737488351232):f4 K r r=some true:=by
 unfold KW at hK
 unfold f4
 rw [if_neg (fun h=>h rfl),if_neg (fun h=>h rfl),scan_none (n:=r.Conj.length) (K:=K) (L:=f4.l0 K r r) (by omega) (fun m i hi=>by
  have hc:=h2 _ (rd_mem (xs:=r.Conj) (i:=(i:Int)) (by omega) (by omega))
  simp only [f4.l0]
  rw [if_pos (by omega),if_pos (by omega),if_pos (by omega),if_neg (fun h=>h rfl),SameSymbols_refl K _ (by omega) (by omega),Option.bind_some,if_neg (by decide),wr (a:=(i:Int)+1) (by omega) (by omega)]) (fun m=>by simp only [f4.l0];rw [if_neg (by omega)])]
 rfl
theorem SameGrammar_refl (K:Nat) (hK:KW≤K) (g:Grammar) (hg:SzG g):W2 K g g=some true:=by
 have hn:=hg.1
 have hr:=hg.2.1
 have hk:140737488355328≤K:=hK
 unfold W2
 rw [if_neg (fun h=>h rfl),SameTexts_refl K _ (by omega) (by omega),Option.bind_some,if_neg (by decide),if_neg (fun h=>h rfl),scan_none (n:=g.Rules.length) (K:=K) (L:=W2.l0 K g g) (by omega) (fun m i hi=>by
  have hc:=hg.2.2 _ (rd_mem (xs:=g.Rules) (i:=(i:Int)) (by omega) (by omega))
  simp only [W2.l0]
  rw [if_pos (by omega),if_pos (by omega),if_pos (by omega),SameRule_refl K hK _ hc.1 hc.2,Option.bind_some,if_neg (by decide),wr (a:=(i:Int)+1) (by omega) (by omega)]) (fun m=>by simp only [W2.l0];rw [if_neg (by omega)])]
 rfl
theorem appLoop {T:Type} {n c B:Nat} {L:Nat→List T×Int→Option (List T×Int)} (f:Nat→List T) (hf:∀ i,(f i).length≤c) (step:∀ m s i,i<n→s.length+c≤B→L (m+1) (s,(i:Int))=L m (s++f i,(i:Int)+1))
  (stop:∀ m s,L (m+1) (s,(n:Int))=some (s,(n:Int))) (m:Nat) (hm:n<m) (s:List T) (hs:s.length+n*c≤B):L m (s,0)=some (s++(List.range n).flatMap f,(n:Int)):=by
 have key:∀ k i s m,i+k=n→k<m→s.length+k*c≤B→L m (s,(i:Int))=some (s++(List.range' i k).flatMap f,(n:Int)):=by
  intro k
  induction k with
  | zero =>
   intro i s m hi hm hs
   obtain ⟨m,rfl⟩:∃ q,m=q+1:=⟨m-1,by omega⟩
   have:i=n:=by omega
   subst this
   rw [stop];simp
  | succ k ih =>
   intro i s m hi hm hs
   obtain ⟨m,rfl⟩:∃ q,m=q+1:=⟨m-1,by omega⟩
   rw [Nat.add_mul] at hs
   have hfi:=hf i
   rw [step m s i (by omega) (by omega),List.range'_succ,List.flatMap_cons,← List.append_assoc]
   have:=ih (i+1) (s++f i) m (by omega) (by omega) (by rw [List.length_append];omega)
   simpa using this
 have:=key n 0 s m (by omega) hm hs
 rw [List.range_eq_range']
 simpa using this
theorem chain_mem {n:Int}:∀ {rs:List Rule} {h:Int},chainP n h rs→∀ r ∈ rs,h≤r.Head∧r.Head≤n-1∧ruleP n r
 | [],h,hc,r,hr=>by cases hr
 | q::rs,h,hc,r,hr=>by
  rw [chainP] at hc
  have hl:=chain_le hc.2.2
  rcases List.mem_cons.1 hr with rfl | hr
  ·exact ⟨by omega,hl,hc.1⟩
  ·have:=chain_mem hc.2.2 r hr
   exact ⟨by omega,this.2.1,this.2.2⟩
theorem may_heads {g:Grammar} (h:mayP g):∀ r ∈ g.Rules,0≤r.Head∧r.Head<(g.Names.length:Int)∧ruleP (g.Names.length:Int) r:=by
 obtain ⟨_,_,_,h1,_,h2,h3,_⟩:=h
 cases hr:g.Rules with
 | nil=>rw [hr] at h1;simp at h1
 | cons r0 rs =>
  rw [hr] at h2 h3
  have h4:r0.Head=0:=h2
  rw [chainP] at h3
  intro r hm
  have hl:=chain_le h3.2.2
  rcases List.mem_cons.1 hm with rfl | hm
  ·exact ⟨by omega,by omega,h3.1⟩
  ·have:=chain_mem h3.2.2 r hm
   exact ⟨by omega,by omega,this.2.2⟩
theorem may_bd {g:Grammar} (h:mayP g):Bd g:=⟨h.2.2.2.2.1,fun r hr=>⟨(may_heads h r hr).2.2.2.1,fun c hc=>((may_heads h r hr).2.2.2.2 c hc).1⟩⟩
end Go.Proofs.Ytgmnohjaciemmaa

namespace Go.Proofs.Ytgmnohjaciemmaa
open S Go.Sort
set_option linter.unusedVariables false
set_option linter.unusedSimpArgs false
set_option maxRecDepth 100000
abbrev seqOf (g:Grammar) (p:Place):List Symbol:=(rd (rd g.Rules p.Rule).Conj p.Conj).Seq
def okP (g:Grammar) (p:Place):Prop:=0≤p.Rule∧p.Rule<(g.Rules.length:Int)∧0≤p.Conj∧p.Conj<((rd g.Rules p.Rule).Conj.length:Int)∧0≤p.Pos∧p.Pos≤((seqOf g p).length:Int)
instance (g:Grammar) (p:Place):Decidable (okP g p):=by unfold okP;infer_instance
def Nm (g:Grammar) (p:Place) (n:Int):Prop:=p.Pos<((seqOf g p).length:Int)∧(rd (seqOf g p) p.Pos).Name=n∧0≤n
def begR (g:Grammar) (n:Int) (r:Nat):List Place:=if (rd g.Rules (r:Int)).Head=n then (List.range (rd g.Rules (r:Int)).Conj.length).map fun (c:Nat)=>(⟨(r:Int),(c:Int),0⟩:Place) else []
def begs (g:Grammar) (n:Int):List Place:=(List.range g.Rules.length).flatMap (begR g n)
theorem mem_begs {g:Grammar} {n:Int} {p:Place}:p ∈ begs g n↔0≤p.Rule∧p.Rule<(g.Rules.length:Int)∧(rd g.Rules p.Rule).Head=n∧0≤p.Conj∧p.Conj<((rd g.Rules p.Rule).Conj.length:Int)∧p.Pos=0:=by
 unfold begs begR
 simp only [List.mem_flatMap,List.mem_range]
 constructor
 ·rintro ⟨r,hr,h⟩
  split at h
  ·rename_i hh
   simp only [List.mem_map,List.mem_range] at h
   obtain ⟨c,hc,rfl⟩:=h
   exact ⟨by simp,by simp;omega,hh,by simp,by simp;omega,rfl⟩
  ·cases h
 ·rintro ⟨h1,h2,h3,h4,h5,h6⟩
  refine ⟨p.Rule.toNat,by omega,?_⟩
  have e:((p.Rule.toNat:Nat):Int)=p.Rule:=Int.toNat_of_nonneg h1
  rw [e,if_pos h3]
  simp only [List.mem_map,List.mem_range]
  refine ⟨p.Conj.toNat,by omega,?_⟩
  have e2:((p.Conj.toNat:Nat):Int)=p.Conj:=Int.toNat_of_nonneg h4
  cases p
  simp only [Place.mk.injEq] at *
  exact ⟨trivial,e2,h6.symm⟩
theorem begs_ok {g:Grammar} {n:Int} {p:Place} (h:p ∈ begs g n):okP g p:=by
 obtain ⟨h1,h2,_,h4,h5,h6⟩:=mem_begs.1 h
 exact ⟨h1,h2,h4,h5,by omega,by rw [h6];omega⟩
theorem begR_len {g:Grammar} (hg:Bd g) (n:Int) (r:Nat) (hr:r<g.Rules.length):(begR g n r).length≤8:=by
 unfold begR
 split
 ·rw [List.length_map,List.length_range]
  exact (hg.2 _ (rd_mem (Int.natCast_nonneg r) (by omega))).1
 ·simp
theorem begs_len {g:Grammar} (hg:Bd g) (n:Int):(begs g n).length≤2048:=by
 have:∀ l:List Nat,(∀ r ∈ l,r<g.Rules.length)→(l.flatMap (begR g n)).length≤l.length*8:=by
  intro l
  induction l with
  | nil=>simp
  | cons r l ih =>
   intro h
   have h1:=begR_len hg n r (h r (.head _))
   have h2:=ih fun q hq=>h q (.tail _ hq)
   rw [List.flatMap_cons,List.length_append,List.length_cons,Nat.add_mul];omega
 have h1:=this (List.range g.Rules.length) fun r hr=>by simpa using hr
 rw [List.length_range] at h1
 have:=hg.1
 unfold begs;omega
theorem begins_l1 (K:Nat) (hK:1000≤K) (g:Grammar) (hg:Bd g) (r:Nat) (hr:r<g.Rules.length) (s:List Place) (hs:s.length+8≤100000):P3.l1 K g r K (s,0)=some (s++(List.range (rd g.Rules (r:Int)).Conj.length).map (fun (c:Nat)=>(⟨(r:Int),(c:Int),0⟩:Place)),((rd g.Rules (r:Int)).Conj.length:Int)):=by
 have h8:=(hg.2 _ (rd_mem (Int.natCast_nonneg r) (by omega))).1
 have:=appLoop (n:=(rd g.Rules (r:Int)).Conj.length) (c:=1) (B:=100000) (L:=P3.l1 K g r) (fun (c:Nat)=>[(⟨(r:Int),(c:Int),0⟩:Place)]) (fun _=>by simp) (fun m s c hc hs=>by
  simp only [P3.l1]
  rw [if_pos (by omega),if_pos (by simp only [List.length_cons,List.length_nil];omega),wr (a:=(c:Int)+1) (by omega) (by omega)]) (fun m s=>by simp only [P3.l1];rw [if_neg (by omega)]) K (by omega) s (by omega)
 rw [this]
 congr 3
 induction (List.range (rd g.Rules (r:Int)).Conj.length) with
 | nil=>rfl
 | cons a l ih=>simp [ih]
theorem begins_spec (K:Nat) (hK:1000≤K) (g:Grammar) (hg:Bd g) (n:Int):P3 K g n=some (begs g n):=by
 have h256:=hg.1
 unfold P3
 have:=appLoop (n:=g.Rules.length) (c:=8) (B:=90000) (L:=P3.l0 K g n) (fun r=>if r<g.Rules.length then begR g n r else []) (fun r=>by
  split
  ·exact begR_len hg n r (by assumption)
  ·simp) (fun m s r hr hs=>by
  simp only [P3.l0]
  rw [if_pos (by omega),if_pos (Int.natCast_nonneg r),wr (a:=(r:Int)+1) (by omega) (by omega),if_pos hr]
  unfold begR
  by_cases h:(rd g.Rules (r:Int)).Head=n
  ·rw [if_neg (fun x=>x h),if_pos h,begins_l1 K hK g hg r hr s (by omega),Option.bind_some]
  ·rw [if_pos h,if_neg h,List.append_nil]) (fun m s=>by simp only [P3.l0];rw [if_neg (by omega)]) K (by omega) [] (by simp only [List.length_nil];omega)
 rw [this,Option.bind_some,List.nil_append]
 unfold begs
 have:∀ l:List Nat,(∀ r ∈ l,r<g.Rules.length)→l.flatMap (fun r=>if r<g.Rules.length then begR g n r else [])=l.flatMap (begR g n):=by
  intro l
  induction l with
  | nil=>intro _;rfl
  | cons r l ih=>intro h;rw [List.flatMap_cons,List.flatMap_cons,if_pos (h r (.head _)),ih fun q hq=>h q (.tail _ hq)]
 exact congrArg some (this (List.range g.Rules.length) fun r hr=>List.mem_range.1 hr)
theorem itSym_spec (K:Nat) (g:Grammar) (p:Place) (h:okP g p):w8 K g p=some (if p.Pos=((seqOf g p).length:Int) then ((⟨0,0,0⟩:Symbol),false) else (rd (seqOf g p) p.Pos,true)):=by
 obtain ⟨h1,h2,h3,h4,h5,h6⟩:=h
 unfold w8
 rw [if_pos h1,if_pos h2,if_pos h3,if_pos h4]
 by_cases e:p.Pos=((seqOf g p).length:Int)
 ·rw [if_pos e,if_pos e]
 ·rw [if_neg e,if_neg e,if_pos h5,if_pos (show p.Pos<((seqOf g p).length:Int) by omega)]
def ltP (a b:Place):Prop:=a.Rule<b.Rule∨(a.Rule=b.Rule∧(a.Conj<b.Conj∨(a.Conj=b.Conj∧a.Pos<b.Pos)))
theorem ltP_irr {a b:Place} (h:ltP a b):a≠b:=fun e=>by subst e;unfold ltP at h;omega
theorem ltP_trans {a b c:Place} (h:ltP a b) (h':ltP b c):ltP a c:=by unfold ltP at *;omega
theorem ltP_or (a b:Place):ltP a b∨a=b∨ltP b a:=by
 unfold ltP
 cases a with | mk a1 a2 a3=>cases b with | mk b1 b2 b3 =>
 simp only [Place.mk.injEq]
 omega
theorem rising_nodup {ps:List Place} (h:ps.Pairwise ltP):ps.Nodup:=h.imp fun h=>ltP_irr h
theorem rising_uniq {ps qs:List Place} (h:ps.Pairwise ltP) (h':qs.Pairwise ltP) (hm:∀ p,p ∈ ps↔p ∈ qs):ps=qs:=by
 refine perm_unique (r:=fun x y=>(!(ltOf rowP y x))=true) (fun x y h1 h2=>rowP_anti _ _ (by simpa using h2) (by simpa using h1)) ((List.perm_ext_iff_of_nodup (rising_nodup h) (rising_nodup h')).2 hm) (h.imp fun {x y} h=>?_) (h'.imp fun {x y} h=>?_)
 all_goals
  have h1:=(rowP_lt x y).2 h
  cases h2:ltOf rowP y x with
  | false=>rfl
  | true=>have:=rowP_swo.trans _ _ _ h1 h2;rw [rowP_swo.irrefl] at this;cases this
theorem sort_rising {ps:List Place} (h:ps.Nodup):(sortL rowP ps).Pairwise ltP∧∀ p,p ∈ sortL rowP ps↔p ∈ ps:=by
 have hp:(sortL rowP ps).Perm ps:=List.mergeSort_perm _ _
 have h1:(sortL rowP ps).Pairwise fun x y=>(!(ltOf rowP y x))=true:=by
  refine List.pairwise_mergeSort (fun a b c h1 h2=>?_) (fun a b=>?_) _
  ·have:=rowP_swo.ntrans c b a (by simpa using h2) (by simpa using h1)
   simpa using this
  ·by_cases h:ltOf rowP b a=true
   ·have:ltOf rowP a b=false:=by
     cases hab:ltOf rowP a b with
     | false=>rfl
     | true=>have:=rowP_swo.trans _ _ _ h hab;rw [rowP_swo.irrefl] at this;cases this
    simp [this]
   ·simp [h]
 refine ⟨(h1.and (hp.nodup_iff.2 h)).imp fun {x y} ⟨h2,h3⟩=>?_,fun p=>hp.mem_iff⟩
 rcases ltP_or x y with h4 | h4 | h4
 ·exact h4
 ·exact (h3 h4).elim
 ·have:=(rowP_lt y x).2 h4
  rw [this] at h2;cases h2
theorem nodup_lt:∀ (n:Nat) (l:List Nat),l.Nodup→(∀ x ∈ l,x<n)→l.length≤n:=by
 intro n
 induction n with
 | zero=>intro l _ h;cases l with
  | nil=>simp
  | cons a l=>exact absurd (h a (.head _)) (Nat.not_lt_zero _)
 | succ n ih =>
  intro l hl h
  have h1:=ih (l.filter fun x=>x != n) (hl.filter _) fun x hx=>by
   simp at hx
   have:=h x hx.1
   omega
  have h2:l.length≤(l.filter fun x=>x != n).length+1:=by
   clear h1 h ih
   induction l with
   | nil=>simp
   | cons a l ih =>
    rw [List.nodup_cons] at hl
    by_cases e:a=n
    ·subst e
     have:(l.filter fun x=>x != a)=l:=List.filter_eq_self.2 fun x hx=>by
      have:x≠a:=fun e=>hl.1 (e ▸ hx)
      simpa using this
     simp [this]
    ·have:=ih hl.2
     simp [e];omega
  omega
def numP (p:Place):Nat:=p.Rule.toNat*1024+p.Conj.toNat*128+p.Pos.toNat
theorem ok_small {g:Grammar} (hg:Bd g) {p:Place} (h:okP g p):0≤p.Rule∧p.Rule<256∧0≤p.Conj∧p.Conj<8∧0≤p.Pos∧p.Pos≤64:=by
 obtain ⟨h1,h2,h3,h4,h5,h6⟩:=h
 have a1:=hg.1
 have a2:=hg.2 _ (rd_mem h1 h2)
 have a3:=a2.2 _ (rd_mem h3 h4)
 have a4:=a2.1
 have h6':p.Pos≤((rd (rd g.Rules p.Rule).Conj p.Conj).Seq.length:Int):=h6
 exact ⟨h1,by omega,h3,by omega,h5,by omega⟩
theorem places_len {g:Grammar} (hg:Bd g) {ps:List Place} (hn:ps.Nodup) (h:∀ p ∈ ps,okP g p):ps.length≤262144:=by
 have:=nodup_lt 262144 (ps.map numP) (List.pairwise_map.2 (hn.imp_of_mem fun {x y} hx hy hne e=>hne (by
  have a:=ok_small hg (h x hx)
  have b:=ok_small hg (h y hy)
  unfold numP at e
  cases x with | mk x1 x2 x3=>cases y with | mk y1 y2 y3 =>
  simp only [Place.mk.injEq] at *
  omega))) fun q hq=>by
  obtain ⟨p,hp,rfl⟩:=List.mem_map.1 hq
  have:=ok_small hg (h p hp)
  unfold numP;omega
 simpa using this
inductive Cl (g:Grammar) (ps:List Place):Place→Prop
 | base {p:Place}:p ∈ ps→Cl g ps p
 | step {q p:Place} {n:Int}:Cl g ps q→Nm g q n→p ∈ begs g n→Cl g ps p
theorem Cl.ok {g:Grammar} {ps:List Place} (h:∀ p ∈ ps,okP g p) {p:Place} (hc:Cl g ps p):okP g p:=by
 cases hc with
 | base h1=>exact h p h1
 | step _ _ h1=>exact begs_ok h1
def IsCl (g:Grammar) (ps out:List Place):Prop:=out.Pairwise ltP∧∀ p,p ∈ out↔Cl g ps p
theorem IsCl.uniq {g:Grammar} {ps a b:List Place} (h:IsCl g ps a) (h':IsCl g ps b):a=b:=rising_uniq h.1 h'.1 fun p=>(h.2 p).trans (h'.2 p).symm
theorem IsCl.of {g:Grammar} {ps out:List Place} (h1:out.Pairwise ltP) (h2:∀ p ∈ ps,p ∈ out) (h3:∀ p ∈ out,Cl g ps p) (h4:∀ q ∈ out,∀ n,Nm g q n→∀ p ∈ begs g n,p ∈ out):IsCl g ps out :=
 ⟨h1,fun p=>⟨h3 p,fun h=>by
  induction h with
  | base h=>exact h2 _ h
  | step _ hn hp ih=>exact h4 _ ih _ hn _ hp⟩⟩
end Go.Proofs.Ytgmnohjaciemmaa

