import Derived.Shelf.SlLaysF0
import Derived.Test.YtgmnohjaciemmaaProg
import Derived.Test.YtgmnohjaciemmaaW5
namespace Go.Proofs.Ytgmnohjaciemmaa
open S
set_option linter.unusedVariables false
set_option maxRecDepth 100000
set_option maxHeartbeats 4000000
def M0.l1 (K:Nat) (a1:Grammar) (i23:Int):Nat→((List Conjunct)×Int)→Option ((List Conjunct)×Int)
 | 0,_=>none
 | m+1,(xs30,j31)=>if j31<(((rd a1.Rules i23).Conj).length:Int) then if 0≤j31 then if (([]:List Symbol).length+((rd ((rd a1.Rules i23).Conj) j31).Seq).length)*24≤140737488355328 then if (xs30.length+1)*32≤140737488355328 then M0.l1 K a1 i23 m (xs30++[(⟨(rd ((rd a1.Rules i23).Conj) j31).Neg,([]:List Symbol)++((rd ((rd a1.Rules i23).Conj) j31).Seq)⟩:Conjunct)],IntKind.wrap .i64 (j31+1)) else none else none else none else some (xs30,j31)
def M0.l0 (K:Nat) (a1:Grammar):Nat→((List Rule)×Int)→Option ((List Rule)×Int)
 | 0,_=>none
 | m+1,(xs22,i23)=>if i23<(a1.Rules.length:Int) then if 0≤i23 then (M0.l1 K a1 i23 K (([]:List Conjunct),0)).bind fun (xs30,j31)=>if (xs22.length+1)*32≤140737488355328 then M0.l0 K a1 m (xs22++[(⟨(rd a1.Rules i23).Head,xs30⟩:Rule)],IntKind.wrap .i64 (i23+1)) else none else none else some (xs22,i23)
def M0 (K:Nat) (a1:Grammar):Option Grammar:=if (([]:List ByteArray).length+a1.Names.length)*16≤140737488355328 then (some ()).bind fun _=>(M0.l0 K a1 K (([]:List Rule),0)).bind fun (xs22,i23)=>some (⟨a1.Start,([]:List ByteArray)++a1.Names,xs22⟩:Grammar) else none
theorem f9 (K:Nat) (a1:Grammar):Hands Try.prog 9 [.agg (cGrammar.e a1)] [] (M0 K a1) (fun (r:Grammar) (v:Value×Value×List (Value×List Value))=>.agg [Ai .i64 r.Start,.sv v.1,.sv v.2.1]) (fun (r:Grammar) (v:Value×Value×List (Value×List Value))=>[.own 9 cS v.1 r.Names,.trg P7 v.2.1 r.Rules v.2.2 none]):=by
 refine obj_of Try.func9 rfl Try.ntmps9 (le_ rfl) ?_
 refine sSR Y<|sQ (Q6 (az:=cGrammar.e a1) Y cAgg) Y<|m6 (az:=[Ai .i64 (0:Int),.lit (.slice none 0 0),.lit (.slice none 0 0)]) al25 (fun _ _=>.cons Y (.cons Y (.cons Y .nil))) Y fun b2=>j0<|J0<|sIf fun h4=>fc (fun (_:Unit) (g_:(Nat×Value))=>([(1,.fptr ((cGrammar.e a1))),(2,.lit (.pointer (some ⟨b2,0,none⟩))),(3,.lit (.pointer (some ⟨g_.1,0,none⟩)))]:Fr)) (fun (_:Unit) (g_:(Nat×Value))=>([.box b2 [Ai .i64 (0:Int),.lit (.slice none 0 0),.lit (.slice none 0 0)],.box g_.1 [Ai .i64 a1.Start,.sv g_.2,.lit (.slice none 0 0)],.own 9 cS g_.2 (([]:List ByteArray)++a1.Names)]:List Res)) ?_ ?_
 ·rintro _ ⟨b7,v8⟩
  refine J0<|sSR Y<|sA Y Y<|j0<|Qb (c:=P7.c) 1 2 61 Y Y fun v19=>yd 0 P7 Y<|sLo (M0.l0 K a1) (fun ((xs22,i23):((List Rule)×Int)) (g_:(Value×List (Value×List Value)))=>([(1,.fptr ((cGrammar.e a1))),(2,.lit (.pointer (some ⟨b2,0,none⟩))),(3,.lit (.pointer (some ⟨b7,0,none⟩))),(4,Ai .i64 i23)]:Fr)) (fun ((xs22,i23):((List Rule)×Int)) (g_:(Value×List (Value×List Value)))=>([.trg P7 g_.1 xs22 g_.2 none,.box b2 [Ai .i64 (0:Int),.lit (.slice none 0 0),.lit (.slice none 0 0)],.box b7 [Ai .i64 a1.Start,.sv v8,.sv g_.1],.own 9 cS v8 (([]:List ByteArray)++a1.Names)]:List Res)) (v19,([]:List (Value×List Value))) (fun _=>Y) [] ⟨Y,Y,Y,Y,trivial⟩ Y ?_ ?_
  ·rintro ⟨xs22,i23⟩ ⟨v20,us21⟩
   refine sSR Y<|sQ (W6 (j:=2) g25 z25 Y Y (le_ Y)) Y<|Q7 (j:=1) z25 Y Y Y cAgg ⟨(oLit Y),oSv,oSv,trivial⟩ Y (le_ Y)<|j0<|sPk [3,0,0] (H':=[.own 9 cS v8 (([]:List ByteArray)++a1.Names),.trg P7 v20 xs22 us21 none,.box b2 [Ai .i64 a1.Start,.sv v8,.sv v20]]) Y<|P0 [2] Try.func9 Try.results9 (rC (j:=2) g25 z25 Y Y Y) ⟨(v8,v20,us21),Y,Y⟩
  ·rintro m ⟨xs22,i23⟩ ⟨v20,us21⟩ again0 out0
   refine J0<|sSR Y<|sM Y Y<|sQ (dFA fa25_2 Y) Y<|sQ (dLd g23 Y Y) Y<|sQ (m4 Try.underlying23 Y) Y<|sQ (dLt Y Y) Y<|j0<|P2 Y (fun h24=>?_) (fun h24=>?_)
   ·refine V0<|J0<|M6<|sSR Y<|sQ (dFA fa25_2 Y) Y<|sQ (dLd g23 Y Y) Y<|sM Y Y<|M5 fun h25=>sQ (dIx Try.underlying23 z61 Y Y h25 h24) Y<|sQ (dFA fa61_0 Y) Y<|sQ (dLd g3 Y Y) Y<|sQ (J5 (az:=[Ai .i64 (0:Int),.lit (.slice none 0 0)]) Try.underlying61 zv61 pl61 (fun _ _=>.cons Y (.cons Y .nil)) (.c Y Y (cOne (oLit Y)) Y Y .nil)) Y<|m6 (az:=[Ai .i64 (0:Int),.lit (.slice none 0 0)]) al61 (fun _ _=>.cons Y (.cons Y .nil)) Y fun b26=>Q7 (j:=0) z61 Y Y Y cAgg ⟨(oLit Y),(oLit Y),trivial⟩ Y (le_ Y)<|j0<|J0<|sSR Y<|sA Y Y<|j0<|Qb (c:=j6.c) 0 1 58 Y Y fun v27=>yd 0 j6 Y<|sLo (M0.l1 K a1 i23) (fun ((xs30,j31):((List Conjunct)×Int)) (g_:(Value×List Value))=>([(1,.fptr ((cGrammar.e a1))),(2,.lit (.pointer (some ⟨b2,0,none⟩))),(3,.lit (.pointer (some ⟨b7,0,none⟩))),(4,Ai .i64 i23),(5,.lit (.pointer (some ⟨b26,0,none⟩))),(6,Ai .i64 j31)]:Fr)) (fun ((xs30,j31):((List Conjunct)×Int)) (g_:(Value×List Value))=>([.trg j6 g_.1 xs30 g_.2 none,.box b26 [Ai .i64 ((rd a1.Rules i23).Head),.sv g_.1],.trg P7 v20 xs22 us21 none,.box b2 [Ai .i64 (0:Int),.lit (.slice none 0 0),.lit (.slice none 0 0)],.box b7 [Ai .i64 a1.Start,.sv v8,.sv v20],.own 9 cS v8 (([]:List ByteArray)++a1.Names)]:List Res)) (v27,([]:List Value)) (fun _=>Y) [] ⟨Y,Y,Y,Y,Y,Y,trivial⟩ Y ?_ ?_
    ·rintro ⟨xs30,j31⟩ ⟨v28,us29⟩
     refine L4 Y<|sQ (b5 fa25_2 Y) Y<|sQ (L6 (j:=4) g23 Y Y Y) Y<|sQ (W6 (j:=1) g61 z61 Y Y (le_ Y)) Y<|sQ (dBS (c:=P7.c) (xs:=([((⟨(rd a1.Rules i23).Head,xs30⟩:Rule),(v28,us29))]:List (Rule×(Value×List Value)))) Try.underlying23 z61 Mc (.c Y cAgg .nil) Y) Y<|M5 fun h43=>Gd P7<|Pd [0] (⟨(rd a1.Rules i23).Head,xs30⟩:Rule) (v28,us29) Y Y<|kf 1 Y Y Try.underlying23 Mc Y Y Y h43 Y Y fun v44=>sQ (b5 fa25_2 Y) Y<|Q7 (j:=3) z23 Y Y Y (cOne oSv) ⟨oSv,trivial⟩ Y (le_ Y)<|j0<|f2<|L4 Y<|sM Y Y<|sQ (k6 Y Y) Y<|sA Y Y<|j0<|M2 (again0 (xs22++[(⟨(rd a1.Rules i23).Head,xs30⟩:Rule)],IntKind.wrap .i64 (i23+1)) (v44,us21++[(v28,us29)])) [0,1,1,1] ⟨Y,Y,Y,Y,trivial⟩ Y
    ·rintro m ⟨xs30,j31⟩ ⟨v28,us29⟩ again1 out1
     refine J0<|sSR Y<|sM Y Y<|sQ (dFA fa25_2 Y) Y<|sQ (dLd g23 Y Y) Y<|sM Y Y<|sQ (dIx Try.underlying23 z61 Y Y h25 h24) Y<|sQ (dFA fa61_1 Y) Y<|sQ (dLd g59 Y Y) Y<|sQ (m4 Try.underlying59 Y) Y<|sQ (dLt Y Y) Y<|j0<|P2 Y (fun h32=>?_) (fun h32=>?_)
     ·refine V0<|J0<|M6<|sSR Y<|sQ (dFA fa25_2 Y) Y<|sQ (dLd g23 Y Y) Y<|sM Y Y<|sQ (dIx Try.underlying23 z61 Y Y h25 h24) Y<|sQ (dFA fa61_1 Y) Y<|sQ (dLd g59 Y Y) Y<|sM Y Y<|M5 fun h33=>sQ (dIx Try.underlying59 z58 Y Y h33 h32) Y<|sQ (J6 g58 z58 Y (le_ Y)) Y<|m6 (az:=[Ab false,.lit (.slice none 0 0)]) al58 (fun _ _=>.cons Y (.cons Y .nil)) Y fun b34=>Q7 (j:=0) z58 Y Y Y cAgg ((cConjunct).one _) Y (le_ Y)<|j0<|sIf fun h36=>sIf fun h38=>mc [(0,49,.lit (.pointer (some ⟨b26,1,none⟩))),(1,50,.sv v28),(2,51,.lit (.pointer (some ⟨b34,0,none⟩))),(3,52,Ab ((rd ((rd a1.Rules i23).Conj) j31).Neg)),(4,53,.es),(5,54,.lit (.pointer (some ⟨b34,1,none⟩))),(6,55,.fsl cSymbol ((rd ((rd a1.Rules i23).Conj) j31).Seq)),(11,60,.lit (.pointer (some ⟨b26,1,none⟩)))] [7,8,9,10,12] [[7,8,9,10,12]] mixed (by kernel_rfl) (by kernel_rfl) (by kernel_rfl) (by kernel_rfl) ⟨?_,trivial⟩
      ·refine mE [49,50,51,52,60] [0,1,2,3,4,5,6,11] (by kernel_rfl) (by kernel_rfl) (by kernel_rfl) (by kernel_rfl) Y Y (.c Y Y Y Y (.r (b5 fa61_1 Y))<|.c Y Y Y Y (.r (L6 (j:=2) g59 Y Y Y))<|.c Y Y Y Y (.r (b5 fa58_0 Y))<|.c Y Y Y Y (.r (L6 (j:=0) g4 Y Y Y))<|.c Y Y Y Y (.r (Vc (c:=cSymbol) Try.underlying56 z51 jb))<|.c Y Y Y Y (.r (b5 fa58_1 Y))<|.c Y Y Y Y (.r (L6 (j:=0) g56 Y Y Y))<|.c Y Y Y Y (.r (b5 fa61_1 Y)) .n) ?_
       intro ab7 l7 nx7
       refine md 53 51 cSymbol Y fun v40=>sAp (j:=0) Try.underlying56 jb Y Y Y Y h36 Y Y fun v41=>nx7 (H'':=[.own 51 cSymbol v41 (([]:List Symbol)++((rd ((rd a1.Rules i23).Conj) j31).Seq)),.box b34 [Ab ((rd ((rd a1.Rules i23).Conj) j31).Neg),.fsl cSymbol ((rd ((rd a1.Rules i23).Conj) j31).Seq)],.trg j6 v28 xs30 us29 none,.box b26 [Ai .i64 ((rd a1.Rules i23).Head),.sv v28],.trg P7 v20 xs22 us21 none,.box b2 [Ai .i64 (0:Int),.lit (.slice none 0 0),.lit (.slice none 0 0)],.box b7 [Ai .i64 a1.Start,.sv v8,.sv v20],.own 9 cS v8 (([]:List ByteArray)++a1.Names)]) [(53,.sv v40),(56,.sv v41)] [0,0,0,0,0,0,0,0] ⟨Y,Y,trivial⟩ (by repeat (first | with_reducible exact .z | refine .s Y ?_)) Y (by kernel_rfl)<|mE [49,50,60] [0,1,2,3,11] (by kernel_rfl) (by kernel_rfl) (by kernel_rfl) (by kernel_rfl) Y Y (.c Y Y Y Y (.r (b5 fa61_1 Y))<|.c Y Y Y Y (.r (L6 (j:=3) g59 Y Y Y))<|.c Y Y Y Y (.r (b5 fa58_0 Y))<|.c Y Y Y Y (.r (L6 (j:=1) g4 Y Y Y))<|.c Y Y Y Y (.r (b5 fa61_1 Y)) .n) ?_
       intro ab8 l8 nx8
       refine sQ (J5 (az:=[Ab false,.lit (.slice none 0 0)]) Try.underlying58 zv58 pl58 (fun _ _=>.cons Y (.cons Y .nil)) (.c Y Y (cOne (oLit Y)) Y Y (.c Y Y (cOne oSv) Y Y .nil))) Y<|nx8 (H'':=[.own 51 cSymbol v41 (([]:List Symbol)++((rd ((rd a1.Rules i23).Conj) j31).Seq)),.box b34 [Ab ((rd ((rd a1.Rules i23).Conj) j31).Neg),.fsl cSymbol ((rd ((rd a1.Rules i23).Conj) j31).Seq)],.trg j6 v28 xs30 us29 none,.box b26 [Ai .i64 ((rd a1.Rules i23).Head),.sv v28],.trg P7 v20 xs22 us21 none,.box b2 [Ai .i64 (0:Int),.lit (.slice none 0 0),.lit (.slice none 0 0)],.box b7 [Ai .i64 a1.Start,.sv v8,.sv v20],.own 9 cS v8 (([]:List ByteArray)++a1.Names)]) [(53,.sv v40),(56,.sv v41),(57,.agg [Ab ((rd ((rd a1.Rules i23).Conj) j31).Neg),.sv v41])] [0,0,0,0,0,0,0,0] ⟨Y,Y,Y,trivial⟩ (by repeat (first | with_reducible exact .z | refine .s Y ?_)) Y (by kernel_rfl)<|mE [49,50,60] [0,1,11] (by kernel_rfl) (by kernel_rfl) (by kernel_rfl) (by kernel_rfl) Y Y (.c Y Y Y Y (.r (b5 fa61_1 Y))<|.c Y Y Y Y (.r (L6 (j:=3) g59 Y Y Y))<|.c Y Y Y Y (.r (b5 fa61_1 Y)) .n) ?_
       intro ab9 l9 nx9
       refine sQ (dBS (c:=j6.c) (xs:=([((⟨(rd ((rd a1.Rules i23).Conj) j31).Neg,([]:List Symbol)++((rd ((rd a1.Rules i23).Conj) j31).Seq)⟩:Conjunct),v41)]:List (Conjunct×Value))) Try.underlying59 z58 vc (.c Y cAgg .nil) Y) Y<|nx9 (H'':=[.own 51 cSymbol v41 (([]:List Symbol)++((rd ((rd a1.Rules i23).Conj) j31).Seq)),.box b34 [Ab ((rd ((rd a1.Rules i23).Conj) j31).Neg),.fsl cSymbol ((rd ((rd a1.Rules i23).Conj) j31).Seq)],.trg j6 v28 xs30 us29 none,.box b26 [Ai .i64 ((rd a1.Rules i23).Head),.sv v28],.trg P7 v20 xs22 us21 none,.box b2 [Ai .i64 (0:Int),.lit (.slice none 0 0),.lit (.slice none 0 0)],.box b7 [Ai .i64 a1.Start,.sv v8,.sv v20],.own 9 cS v8 (([]:List ByteArray)++a1.Names)]) [(53,.sv v40),(56,.sv v41),(57,.agg [Ab ((rd ((rd a1.Rules i23).Conj) j31).Neg),.sv v41]),(58,.fsl j6.c ([((⟨(rd ((rd a1.Rules i23).Conj) j31).Neg,([]:List Symbol)++((rd ((rd a1.Rules i23).Conj) j31).Seq)⟩:Conjunct),v41)]:List (Conjunct×Value)))] [0,0,0,0,0,0,0,0] ⟨Y,Y,Y,Y,trivial⟩ (by repeat (first | with_reducible exact .z | refine .s Y ?_)) Y (by kernel_rfl)<|mE [60] [0,1,11] (by kernel_rfl) (by kernel_rfl) (by kernel_rfl) (by kernel_rfl) Y Y (.c Y Y Y Y (.r (b5 fa61_1 Y))<|.c Y Y Y Y (.r (L6 (j:=3) g59 Y Y Y))<|.c Y Y Y Y (.r (b5 fa61_1 Y)) .n) ?_
       intro ab10 l10 nx10
       refine Gd j6<|Pd [0] (⟨(rd ((rd a1.Rules i23).Conj) j31).Neg,([]:List Symbol)++((rd ((rd a1.Rules i23).Conj) j31).Seq)⟩:Conjunct) v41 Y Y<|kf 1 Y Y Try.underlying59 vc Y Y Y h38 Y Y fun v42=>nx10 (H'':=[.trg j6 v42 (xs30++[(⟨(rd ((rd a1.Rules i23).Conj) j31).Neg,([]:List Symbol)++((rd ((rd a1.Rules i23).Conj) j31).Seq)⟩:Conjunct)]) (us29++[v41]) none,.box b34 [Ab ((rd ((rd a1.Rules i23).Conj) j31).Neg),.fsl cSymbol ((rd ((rd a1.Rules i23).Conj) j31).Seq)],.box b26 [Ai .i64 ((rd a1.Rules i23).Head),.sv v28],.trg P7 v20 xs22 us21 none,.box b2 [Ai .i64 (0:Int),.lit (.slice none 0 0),.lit (.slice none 0 0)],.box b7 [Ai .i64 a1.Start,.sv v8,.sv v20],.own 9 cS v8 (([]:List ByteArray)++a1.Names)]) [(53,.sv v40),(56,.sv v41),(57,.agg [Ab ((rd ((rd a1.Rules i23).Conj) j31).Neg),.sv v41]),(58,.fsl j6.c ([((⟨(rd ((rd a1.Rules i23).Conj) j31).Neg,([]:List Symbol)++((rd ((rd a1.Rules i23).Conj) j31).Seq)⟩:Conjunct),v41)]:List (Conjunct×Value))),(59,.sv v42)] [0,0,0,0,0,0,0] ⟨Y,Y,Y,Y,Y,trivial⟩ (by repeat (first | with_reducible exact .z | refine .s Y ?_)) Y (by kernel_rfl)<|mE [] [11] (by kernel_rfl) (by kernel_rfl) (by kernel_rfl) (by kernel_rfl) Y Y (.c Y Y Y Y (.r (b5 fa61_1 Y)) .n) ?_
       intro ab12 l12 nx12
       refine Q7 (j:=2) z59 Y Y Y (cOne oSv) ⟨oSv,trivial⟩ Y (le_ Y)<|nx12 (H'':=[.trg j6 v42 (xs30++[(⟨(rd ((rd a1.Rules i23).Conj) j31).Neg,([]:List Symbol)++((rd ((rd a1.Rules i23).Conj) j31).Seq)⟩:Conjunct)]) (us29++[v41]) none,.box b34 [Ab ((rd ((rd a1.Rules i23).Conj) j31).Neg),.fsl cSymbol ((rd ((rd a1.Rules i23).Conj) j31).Seq)],.box b26 [Ai .i64 ((rd a1.Rules i23).Head),.sv v42],.trg P7 v20 xs22 us21 none,.box b2 [Ai .i64 (0:Int),.lit (.slice none 0 0),.lit (.slice none 0 0)],.box b7 [Ai .i64 a1.Start,.sv v8,.sv v20],.own 9 cS v8 (([]:List ByteArray)++a1.Names)]) [(53,.sv v40),(56,.sv v41),(57,.agg [Ab ((rd ((rd a1.Rules i23).Conj) j31).Neg),.sv v41]),(58,.fsl j6.c ([((⟨(rd ((rd a1.Rules i23).Conj) j31).Neg,([]:List Symbol)++((rd ((rd a1.Rules i23).Conj) j31).Seq)⟩:Conjunct),v41)]:List (Conjunct×Value))),(59,.sv v42)] [0,0,0,0,0,0,0] ⟨Y,Y,Y,Y,Y,trivial⟩ (by repeat (first | with_reducible exact .z | refine .s Y ?_)) Y (by kernel_rfl)<|mEnd [] (by kernel_rfl) (by kernel_rfl) (by kernel_rfl) (.n)<|f2<|L4 Y<|sM Y Y<|sQ (k6 Y Y) Y<|sA Y Y<|j0<|M2 (again1 (xs30++[(⟨(rd ((rd a1.Rules i23).Conj) j31).Neg,([]:List Symbol)++((rd ((rd a1.Rules i23).Conj) j31).Seq)⟩:Conjunct)],IntKind.wrap .i64 (j31+1)) (v42,us29++[v41])) [0,1,1,1,1,1] ⟨Y,Y,Y,Y,Y,Y,trivial⟩ Y
     ·refine f5 Y<|M2 (out1 (xs30,j31) (v28,us29)) [0,0,0,0,0,0] ⟨Y,Y,Y,Y,Y,Y,trivial⟩ Y
   ·refine f5 Y<|M2 (out0 (xs22,i23) (v20,us21)) [0,0,0,0] ⟨Y,Y,Y,Y,trivial⟩ Y
 ·intro join8
  refine mc [(0,8,.fptr ((cGrammar.e a1))),(1,9,Ai .i64 a1.Start),(2,10,.es),(3,11,.fptr ((cGrammar.e a1).drop 1)),(4,12,.fsl cS a1.Names)] [5,6,7,8] [[5,6,7,8],[5,7,6,8],[7,5,6,8]] mixed (by kernel_rfl) (by kernel_rfl) (by kernel_rfl) (by kernel_rfl) ⟨?_,?_,?_,trivial⟩
  ·refine mE [8,9] [0,1,2,3,4] (by kernel_rfl) (by kernel_rfl) (by kernel_rfl) (by kernel_rfl) Y Y (.c Y Y Y Y (.r (dFA fa25_0 Y))<|.c Y Y Y Y (.r (dLd g3 Y Y))<|.c Y Y Y Y (.r (Vc (c:=cS) Try.underlying22 z9 Pb))<|.c Y Y Y Y (.r (dFA fa25_1 Y))<|.c Y Y Y Y (.r (dLd g22 Y Y)) .n) ?_
   intro ab5 l5 nx5
   refine md 10 9 cS Y fun v10=>sAp (j:=0) Try.underlying22 Pb Y Y Y Y h4 Y Y fun v11=>nx5 (H'':=[.own 9 cS v11 (([]:List ByteArray)++a1.Names),.box b2 [Ai .i64 (0:Int),.lit (.slice none 0 0),.lit (.slice none 0 0)]]) [(10,.sv v10),(13,.sv v11)] [0,0] ⟨Y,Y,trivial⟩ (by repeat (first | with_reducible exact .z | refine .s Y ?_)) Y (by kernel_rfl)<|mE [] [0,1] (by kernel_rfl) (by kernel_rfl) (by kernel_rfl) (by kernel_rfl) Y Y (.c Y Y Y Y (.r (dFA fa25_0 Y))<|.c Y Y Y Y (.r (dLd g3 Y Y)) .n) ?_
   intro ab6 l6 nx6
   refine sQ (J5 (az:=[Ai .i64 (0:Int),.lit (.slice none 0 0),.lit (.slice none 0 0)]) Try.underlying25 zv25 pl25 (fun _ _=>.cons Y (.cons Y (.cons Y .nil))) (.c Y Y (cOne (oLit Y)) Y Y (.c Y Y (cOne oSv) Y Y .nil))) Y<|nx6 (H'':=[.own 9 cS v11 (([]:List ByteArray)++a1.Names),.box b2 [Ai .i64 (0:Int),.lit (.slice none 0 0),.lit (.slice none 0 0)]]) [(10,.sv v10),(13,.sv v11),(14,.agg [Ai .i64 a1.Start,.sv v11,.lit (.slice none 0 0)])] [0,0] ⟨Y,Y,Y,trivial⟩ (by repeat (first | with_reducible exact .z | refine .s Y ?_)) Y (by kernel_rfl)<|mE [] [] (by kernel_rfl) (by kernel_rfl) (by kernel_rfl) (by kernel_rfl) Y Y (.n) ?_
   intro ab7 l7 nx7
   refine m6 (az:=[Ai .i64 (0:Int),.lit (.slice none 0 0),.lit (.slice none 0 0)]) al25 (fun _ _=>.cons Y (.cons Y (.cons Y .nil))) Y fun b12=>nx7 (H'':=[.box b12 [Ai .i64 (0:Int),.lit (.slice none 0 0),.lit (.slice none 0 0)],.own 9 cS v11 (([]:List ByteArray)++a1.Names),.box b2 [Ai .i64 (0:Int),.lit (.slice none 0 0),.lit (.slice none 0 0)]]) [(3,.lit (.pointer (some ⟨b12,0,none⟩))),(10,.sv v10),(13,.sv v11),(14,.agg [Ai .i64 a1.Start,.sv v11,.lit (.slice none 0 0)])] [0,0,0] ⟨Y,Y,Y,Y,trivial⟩ (by repeat (first | with_reducible exact .z | refine .s Y ?_)) Y (by kernel_rfl)<|mE [] [] (by kernel_rfl) (by kernel_rfl) (by kernel_rfl) (by kernel_rfl) Y Y (.n) ?_
   intro ab8 l8 nx8
   refine Q7 (j:=0) z25 Y Y Y cAgg ⟨(oLit Y),oSv,(oLit Y),trivial⟩ Y (le_ Y)<|nx8 (H'':=[.box b12 [Ai .i64 a1.Start,.sv v11,.lit (.slice none 0 0)],.own 9 cS v11 (([]:List ByteArray)++a1.Names),.box b2 [Ai .i64 (0:Int),.lit (.slice none 0 0),.lit (.slice none 0 0)]]) [(3,.lit (.pointer (some ⟨b12,0,none⟩))),(10,.sv v10),(13,.sv v11),(14,.agg [Ai .i64 a1.Start,.sv v11,.lit (.slice none 0 0)])] [0,0,0] ⟨Y,Y,Y,Y,trivial⟩ (by repeat (first | with_reducible exact .z | refine .s Y ?_)) Y (by kernel_rfl)<|mEnd [] (by kernel_rfl) (by kernel_rfl) (by kernel_rfl) (.n)<|M2 (join8 () (b12,v11)) [2,0,0] ⟨Y,Y,Y,trivial⟩ Y
  ·refine mE [8,9] [0,1,2,3,4] (by kernel_rfl) (by kernel_rfl) (by kernel_rfl) (by kernel_rfl) Y Y (.c Y Y Y Y (.r (dFA fa25_0 Y))<|.c Y Y Y Y (.r (dLd g3 Y Y))<|.c Y Y Y Y (.r (Vc (c:=cS) Try.underlying22 z9 Pb))<|.c Y Y Y Y (.r (dFA fa25_1 Y))<|.c Y Y Y Y (.r (dLd g22 Y Y)) .n) ?_
   intro ab5 l5 nx5
   refine md 10 9 cS Y fun v13=>sAp (j:=0) Try.underlying22 Pb Y Y Y Y h4 Y Y fun v14=>nx5 (H'':=[.own 9 cS v14 (([]:List ByteArray)++a1.Names),.box b2 [Ai .i64 (0:Int),.lit (.slice none 0 0),.lit (.slice none 0 0)]]) [(10,.sv v13),(13,.sv v14)] [0,0] ⟨Y,Y,trivial⟩ (by repeat (first | with_reducible exact .z | refine .s Y ?_)) Y (by kernel_rfl)<|mE [8,9] [0,1] (by kernel_rfl) (by kernel_rfl) (by kernel_rfl) (by kernel_rfl) Y Y (.c Y Y Y Y (.r (dFA fa25_0 Y))<|.c Y Y Y Y (.r (dLd g3 Y Y)) .n) ?_
   intro ab7 l7 nx7
   refine m6 (az:=[Ai .i64 (0:Int),.lit (.slice none 0 0),.lit (.slice none 0 0)]) al25 (fun _ _=>.cons Y (.cons Y (.cons Y .nil))) Y fun b15=>nx7 (H'':=[.box b15 [Ai .i64 (0:Int),.lit (.slice none 0 0),.lit (.slice none 0 0)],.own 9 cS v14 (([]:List ByteArray)++a1.Names),.box b2 [Ai .i64 (0:Int),.lit (.slice none 0 0),.lit (.slice none 0 0)]]) [(3,.lit (.pointer (some ⟨b15,0,none⟩))),(10,.sv v13),(13,.sv v14)] [0,0,0] ⟨Y,Y,Y,trivial⟩ (by repeat (first | with_reducible exact .z | refine .s Y ?_)) Y (by kernel_rfl)<|mE [] [0,1] (by kernel_rfl) (by kernel_rfl) (by kernel_rfl) (by kernel_rfl) Y Y (.c Y Y Y Y (.r (dFA fa25_0 Y))<|.c Y Y Y Y (.r (dLd g3 Y Y)) .n) ?_
   intro ab6 l6 nx6
   refine sQ (J5 (az:=[Ai .i64 (0:Int),.lit (.slice none 0 0),.lit (.slice none 0 0)]) Try.underlying25 zv25 pl25 (fun _ _=>.cons Y (.cons Y (.cons Y .nil))) (.c Y Y (cOne (oLit Y)) Y Y (.c Y Y (cOne oSv) Y Y .nil))) Y<|nx6 (H'':=[.box b15 [Ai .i64 (0:Int),.lit (.slice none 0 0),.lit (.slice none 0 0)],.own 9 cS v14 (([]:List ByteArray)++a1.Names),.box b2 [Ai .i64 (0:Int),.lit (.slice none 0 0),.lit (.slice none 0 0)]]) [(3,.lit (.pointer (some ⟨b15,0,none⟩))),(10,.sv v13),(13,.sv v14),(14,.agg [Ai .i64 a1.Start,.sv v14,.lit (.slice none 0 0)])] [0,0,0] ⟨Y,Y,Y,Y,trivial⟩ (by repeat (first | with_reducible exact .z | refine .s Y ?_)) Y (by kernel_rfl)<|mE [] [] (by kernel_rfl) (by kernel_rfl) (by kernel_rfl) (by kernel_rfl) Y Y (.n) ?_
   intro ab8 l8 nx8
   refine Q7 (j:=0) z25 Y Y Y cAgg ⟨(oLit Y),oSv,(oLit Y),trivial⟩ Y (le_ Y)<|nx8 (H'':=[.box b15 [Ai .i64 a1.Start,.sv v14,.lit (.slice none 0 0)],.own 9 cS v14 (([]:List ByteArray)++a1.Names),.box b2 [Ai .i64 (0:Int),.lit (.slice none 0 0),.lit (.slice none 0 0)]]) [(3,.lit (.pointer (some ⟨b15,0,none⟩))),(10,.sv v13),(13,.sv v14),(14,.agg [Ai .i64 a1.Start,.sv v14,.lit (.slice none 0 0)])] [0,0,0] ⟨Y,Y,Y,Y,trivial⟩ (by repeat (first | with_reducible exact .z | refine .s Y ?_)) Y (by kernel_rfl)<|mEnd [] (by kernel_rfl) (by kernel_rfl) (by kernel_rfl) (.n)<|M2 (join8 () (b15,v14)) [2,0,0] ⟨Y,Y,Y,trivial⟩ Y
  ·refine mE [8,9,10,11,12] [0,1,2,3,4] (by kernel_rfl) (by kernel_rfl) (by kernel_rfl) (by kernel_rfl) Y Y (.c Y Y Y Y (.r (dFA fa25_0 Y))<|.c Y Y Y Y (.r (dLd g3 Y Y))<|.c Y Y Y Y (.r (Vc (c:=cS) Try.underlying22 z9 Pb))<|.c Y Y Y Y (.r (dFA fa25_1 Y))<|.c Y Y Y Y (.r (dLd g22 Y Y)) .n) ?_
   intro ab7 l7 nx7
   refine m6 (az:=[Ai .i64 (0:Int),.lit (.slice none 0 0),.lit (.slice none 0 0)]) al25 (fun _ _=>.cons Y (.cons Y (.cons Y .nil))) Y fun b16=>nx7 (H'':=[.box b16 [Ai .i64 (0:Int),.lit (.slice none 0 0),.lit (.slice none 0 0)],.box b2 [Ai .i64 (0:Int),.lit (.slice none 0 0),.lit (.slice none 0 0)]]) [(3,.lit (.pointer (some ⟨b16,0,none⟩)))] [0,0] ⟨Y,trivial⟩ (by repeat (first | with_reducible exact .z | refine .s Y ?_)) Y (by kernel_rfl)<|mE [8,9] [0,1,2,3,4] (by kernel_rfl) (by kernel_rfl) (by kernel_rfl) (by kernel_rfl) Y Y (.c Y Y Y Y (.r (dFA fa25_0 Y))<|.c Y Y Y Y (.r (dLd g3 Y Y))<|.c Y Y Y Y (.r (Vc (c:=cS) Try.underlying22 z9 Pb))<|.c Y Y Y Y (.r (dFA fa25_1 Y))<|.c Y Y Y Y (.r (dLd g22 Y Y)) .n) ?_
   intro ab5 l5 nx5
   refine md 10 9 cS Y fun v17=>sAp (j:=0) Try.underlying22 Pb Y Y Y Y h4 Y Y fun v18=>nx5 (H'':=[.own 9 cS v18 (([]:List ByteArray)++a1.Names),.box b16 [Ai .i64 (0:Int),.lit (.slice none 0 0),.lit (.slice none 0 0)],.box b2 [Ai .i64 (0:Int),.lit (.slice none 0 0),.lit (.slice none 0 0)]]) [(3,.lit (.pointer (some ⟨b16,0,none⟩))),(10,.sv v17),(13,.sv v18)] [0,0,0] ⟨Y,Y,Y,trivial⟩ (by repeat (first | with_reducible exact .z | refine .s Y ?_)) Y (by kernel_rfl)<|mE [] [0,1] (by kernel_rfl) (by kernel_rfl) (by kernel_rfl) (by kernel_rfl) Y Y (.c Y Y Y Y (.r (dFA fa25_0 Y))<|.c Y Y Y Y (.r (dLd g3 Y Y)) .n) ?_
   intro ab6 l6 nx6
   refine sQ (J5 (az:=[Ai .i64 (0:Int),.lit (.slice none 0 0),.lit (.slice none 0 0)]) Try.underlying25 zv25 pl25 (fun _ _=>.cons Y (.cons Y (.cons Y .nil))) (.c Y Y (cOne (oLit Y)) Y Y (.c Y Y (cOne oSv) Y Y .nil))) Y<|nx6 (H'':=[.own 9 cS v18 (([]:List ByteArray)++a1.Names),.box b16 [Ai .i64 (0:Int),.lit (.slice none 0 0),.lit (.slice none 0 0)],.box b2 [Ai .i64 (0:Int),.lit (.slice none 0 0),.lit (.slice none 0 0)]]) [(3,.lit (.pointer (some ⟨b16,0,none⟩))),(10,.sv v17),(13,.sv v18),(14,.agg [Ai .i64 a1.Start,.sv v18,.lit (.slice none 0 0)])] [0,0,0] ⟨Y,Y,Y,Y,trivial⟩ (by repeat (first | with_reducible exact .z | refine .s Y ?_)) Y (by kernel_rfl)<|mE [] [] (by kernel_rfl) (by kernel_rfl) (by kernel_rfl) (by kernel_rfl) Y Y (.n) ?_
   intro ab8 l8 nx8
   refine Q7 (j:=1) z25 Y Y Y cAgg ⟨(oLit Y),oSv,(oLit Y),trivial⟩ Y (le_ Y)<|nx8 (H'':=[.own 9 cS v18 (([]:List ByteArray)++a1.Names),.box b16 [Ai .i64 a1.Start,.sv v18,.lit (.slice none 0 0)],.box b2 [Ai .i64 (0:Int),.lit (.slice none 0 0),.lit (.slice none 0 0)]]) [(3,.lit (.pointer (some ⟨b16,0,none⟩))),(10,.sv v17),(13,.sv v18),(14,.agg [Ai .i64 a1.Start,.sv v18,.lit (.slice none 0 0)])] [0,0,0] ⟨Y,Y,Y,Y,trivial⟩ (by repeat (first | with_reducible exact .z | refine .s Y ?_)) Y (by kernel_rfl)<|mEnd [] (by kernel_rfl) (by kernel_rfl) (by kernel_rfl) (.n)<|M2 (join8 () (b16,v18)) [2,1,0] ⟨Y,Y,Y,trivial⟩ Y
def G7 (K:Nat) (a1:(List Place)):Option (List Place):=if (([]:List Place).length+a1.length)*24≤140737488355328 then some (([]:List Place)++a1) else none
theorem M9 (K:Nat) (a1:(List Place)):Fresh1 Try.prog 26 [.fsl cPlace a1] (G7 K a1) (fun r v=>.sv v) (fun r v=>[.own 55 cPlace v r]):=by
 refine fresh_of Try.func26 rfl Try.ntmps26 (le_ rfl) ?_
 refine sSR Y<|sA Y Y<|sES Y<|sQ (Vc (c:=cPlace) Try.underlying26 z55 z7) Y<|sM Y Y<|md 3 55 cPlace Y fun v2=>M5 fun h3=>sAp (j:=0) Try.underlying26 z7 Y Y Y Y h3 Y Y fun v4=>sA Y Y<|j0<|P0 [] Try.func26 Try.results26 (rT Y) ⟨_,Y,Y⟩
def g7 (K:Nat) (a1:(List Place)):Option ((List Place)×Int):=(G7 K a1).bind fun r2=>if (r2.length+([(⟨77777,(0:Int),(0:Int)⟩:Place),(⟨77777,(0:Int),(0:Int)⟩:Place)]:List Place).length)*24≤140737488355328 then if (a1.length:Int)≤((r2++([(⟨77777,(0:Int),(0:Int)⟩:Place),(⟨77777,(0:Int),(0:Int)⟩:Place)]:List Place)).length:Int) then some (r2++([(⟨77777,(0:Int),(0:Int)⟩:Place),(⟨77777,(0:Int),(0:Int)⟩:Place)]:List Place),(a1.length:Int)) else none else none
theorem J9 (K:Nat) (a1:(List Place)):Pure Try.prog 10 [.fsl cPlace a1] (g7 K a1) (fun r=>.fsx cPlace r):=by
 refine spec_of' Try.func10 rfl Try.ntmps10 (le_ rfl) ?_
 refine sSR Y<|sA Y Y<|sES Y<|sM Y Y<|y4 fun r2 e3=>y9 ent26 (M9 K _) e3 (.s Y .nil) Y fun v4=>sQ (J5 (az:=[Ai .i64 (0:Int),Ai .i64 (0:Int),Ai .i64 (0:Int)]) Try.underlying55 zv55 pl55 (fun _ _=>.cons Y (.cons Y (.cons Y .nil))) (.c Y Y (cOne (oLit Y)) Y Y .nil)) Y<|sQ (J5 (az:=[Ai .i64 (0:Int),Ai .i64 (0:Int),Ai .i64 (0:Int)]) Try.underlying55 zv55 pl55 (fun _ _=>.cons Y (.cons Y (.cons Y .nil))) (.c Y Y (cOne (oLit Y)) Y Y .nil)) Y<|sQ (dBS (c:=cPlace) (xs:=([(⟨77777,(0:Int),(0:Int)⟩:Place),(⟨77777,(0:Int),(0:Int)⟩:Place)]:List Place)) Try.underlying26 z55 z7 (.c Y cAgg (.c Y cAgg .nil)) Y) Y<|M5 fun h5=>sAp (j:=0) Try.underlying26 z7 Y Y Y Y h5 Y Y fun v6=>sA Y Y<|sES Y<|sM Y Y<|sM Y Y<|sQ (m4 Try.underlying26 Y) Y<|ce 0 Y<|Wd 10 0 Y Y<|M5 fun h7=>sQ (dSlX Try.underlying26 z55 Y Y nn h7) Y<|sA Y Y<|j0<|P0 [0] Try.func10 Try.results10 (rT Y) ⟨Y,Y⟩
def V8 (K:Nat) (c1:Int):Option Bool:=if 65≤c1 then if c1≤90 then some true else if 97≤c1 then if c1≤122 then some true else some (decide (c1=95)) else some (decide (c1=95)) else if 97≤c1 then if c1≤122 then some true else some (decide (c1=95)) else some (decide (c1=95))
theorem Va (K:Nat) (c1:Int):Pure Try.prog 74 [Ai .u8 c1] (V8 K c1) (fun r=>Ab r):=by
 refine spec_of' Try.func74 rfl Try.ntmps74 (le_ rfl) ?_
 refine sSR Y<|sA Y Y<|sES Y<|sM Y Y<|sQ (dGe Y Y) Y<|sM Y Y<|c3 (fun h2=>?_) (fun h2=>?_)
 ·refine sG 2 Y Y Y (dT h2) Y (dMv Y) Y<|sG 2 Y Y Y (dT h2) Y (dLe Y Y) Y<|sQ (Q0 Y (dT h2) Y) Y<|sM Y Y<|c3 (fun h3=>?_) (fun h3=>?_)
  ·refine sU 6 Y Y Y (dT h3) Y Y<|sU 6 Y Y Y (dT h3) Y Y<|sU 6 Y Y Y (dT h3) Y Y<|sQv (j:=9) Y Y Y Y Y<|sQv (j:=9) Y Y Y Y Y<|sU 6 Y Y Y (dT h3) Y Y<|sQ (Q0 Y (dT h3) Y) Y<|sM Y Y<|sU 14 Y Y Y Y Y Y<|sU 14 Y Y Y Y Y Y<|sQ (Q0 Y Y Y) Y<|sA Y Y<|j0<|P0 [] Try.func74 Try.results74 (rT Y) ⟨Y,Y⟩
  ·refine sG 6 Y Y Y (dF h3) Y (dMv Y) Y<|sG 6 Y Y Y (dF h3) Y (dGe Y Y) Y<|sG 6 Y Y Y (dF h3) Y (dMv Y) Y<|c3 (fun h4=>?_) (fun h4=>?_)
   ·refine sG 9 Y Y Y (dT h4) Y (dMv Y) Y<|sG 9 Y Y Y (dT h4) Y (dLe Y Y) Y<|sG 6 Y Y Y (dF h3) Y (Q0 Y (dT h4) Y) Y<|sQ (f0 Y (dF h3) Y) Y<|sM Y Y<|c3 (fun h5=>?_) (fun h5=>?_)
    ·refine sU 14 Y Y Y (dT h5) Y Y<|sU 14 Y Y Y (dT h5) Y Y<|sQ (Q0 Y (dT h5) Y) Y<|sA Y Y<|j0<|P0 [] Try.func74 Try.results74 (rT Y) ⟨Y,Y⟩
    ·refine sG 14 Y Y Y (dF h5) Y (dMv Y) Y<|sG 14 Y Y Y (dF h5) Y (dEq Y Y) Y<|sQ (f0 Y (dF h5) Y) Y<|sA Y Y<|j0<|P0 [] Try.func74 Try.results74 (rT Y) ⟨Y,Y⟩
   ·refine sU 9 Y Y Y (dF h4) Y Y<|sU 9 Y Y Y (dF h4) Y Y<|sG 6 Y Y Y (dF h3) Y (f0 Y (dF h4) Y) Y<|sQ (f0 Y (dF h3) Y) Y<|sM Y Y<|sG 14 Y Y Y Y Y (dMv Y) Y<|sG 14 Y Y Y Y Y (dEq Y Y) Y<|sQ (f0 Y Y Y) Y<|sA Y Y<|j0<|P0 [] Try.func74 Try.results74 (rT Y) ⟨Y,Y⟩
 ·refine sU 2 Y Y Y (dF h2) Y Y<|sU 2 Y Y Y (dF h2) Y Y<|sQ (f0 Y (dF h2) Y) Y<|sM Y Y<|sG 6 Y Y Y Y Y (dMv Y) Y<|sG 6 Y Y Y Y Y (dGe Y Y) Y<|sG 6 Y Y Y Y Y (dMv Y) Y<|c3 (fun h6=>?_) (fun h6=>?_)
  ·refine sG 9 Y Y Y (dT h6) Y (dMv Y) Y<|sG 9 Y Y Y (dT h6) Y (dLe Y Y) Y<|sG 6 Y Y Y Y Y (Q0 Y (dT h6) Y) Y<|sQ (f0 Y Y Y) Y<|sM Y Y<|c3 (fun h7=>?_) (fun h7=>?_)
   ·refine sU 14 Y Y Y (dT h7) Y Y<|sU 14 Y Y Y (dT h7) Y Y<|sQ (Q0 Y (dT h7) Y) Y<|sA Y Y<|j0<|P0 [] Try.func74 Try.results74 (rT Y) ⟨Y,Y⟩
   ·refine sG 14 Y Y Y (dF h7) Y (dMv Y) Y<|sG 14 Y Y Y (dF h7) Y (dEq Y Y) Y<|sQ (f0 Y (dF h7) Y) Y<|sA Y Y<|j0<|P0 [] Try.func74 Try.results74 (rT Y) ⟨Y,Y⟩
  ·refine sU 9 Y Y Y (dF h6) Y Y<|sU 9 Y Y Y (dF h6) Y Y<|sG 6 Y Y Y Y Y (f0 Y (dF h6) Y) Y<|sQ (f0 Y Y Y) Y<|sM Y Y<|sG 14 Y Y Y Y Y (dMv Y) Y<|sG 14 Y Y Y Y Y (dEq Y Y) Y<|sQ (f0 Y Y Y) Y<|sA Y Y<|j0<|P0 [] Try.func74 Try.results74 (rT Y) ⟨Y,Y⟩
def cb (K:Nat) (c1:Int):Option Bool:=(V8 K c1).bind fun r2=>if r2=true then some true else if 48≤c1 then some (decide (c1≤57)) else some false
theorem Pc (K:Nat) (c1:Int):Pure Try.prog 75 [Ai .u8 c1] (cb K c1) (fun r=>Ab r):=by
 refine spec_of' Try.func75 rfl Try.ntmps75 (le_ rfl) ?_
 refine sSR Y<|sA Y Y<|sES Y<|sM Y Y<|y4 fun r2 e3=>sQ (J4 ent74 (Va K _) e3 (.s Y .nil)) Y<|sM Y Y<|c3 (fun h4=>?_) (fun h4=>?_)
 ·refine sU 2 Y Y Y h4 Y Y<|sU 2 Y Y Y h4 Y Y<|sU 2 Y Y Y h4 Y Y<|sQv (j:=5) Y Y Y Y Y<|sQv (j:=5) Y Y Y Y Y<|sU 2 Y Y Y h4 Y Y<|sQ (Q0 Y h4 Y) Y<|sA Y Y<|j0<|P0 [] Try.func75 Try.results75 (rT Y) ⟨Y,Y⟩
 ·refine sG 2 Y Y Y (eF h4) Y (dMv Y) Y<|sG 2 Y Y Y (eF h4) Y (dGe Y Y) Y<|sG 2 Y Y Y (eF h4) Y (dMv Y) Y<|c3 (fun h5=>?_) (fun h5=>?_)
  ·refine sG 5 Y Y Y (dT h5) Y (dMv Y) Y<|sG 5 Y Y Y (dT h5) Y (dLe Y Y) Y<|sG 2 Y Y Y (eF h4) Y (Q0 Y (dT h5) Y) Y<|sQ (f0 Y (eF h4) Y) Y<|sA Y Y<|j0<|P0 [] Try.func75 Try.results75 (rT Y) ⟨Y,Y⟩
  ·refine sU 5 Y Y Y (dF h5) Y Y<|sU 5 Y Y Y (dF h5) Y Y<|sG 2 Y Y Y (eF h4) Y (f0 Y (dF h5) Y) Y<|sQ (f0 Y (eF h4) Y) Y<|sA Y Y<|j0<|P0 [] Try.func75 Try.results75 (rT Y) ⟨Y,Y⟩
def W7.l0 (K:Nat) (s1:ByteArray):Nat→Int→Option (Int ⊕ Bool)
 | 0,_=>none
 | m+1,t9=>if t9<(s1.size:Int) then if 0≤t9 then (cb K (bt s1 t9)).bind fun r12=>if (!r12)=true then some (.inr false) else W7.l0 K s1 m (IntKind.wrap .i64 (t9+1)) else none else some (.inl t9)
def W7 (K:Nat) (s1:ByteArray):Option Bool:=if s1=(⟨#[]⟩:ByteArray) then some false else if 32<(s1.size:Int) then some false else if s1=(⟨#[115,116,97,114,116]⟩:ByteArray) then some false else if 0<(s1.size:Int) then (V8 K (bt s1 0)).bind fun r6=>if (!r6)=true then some false else brk (W7.l0 K s1 K 0) fun t9=>some true else none
theorem Gc (K:Nat) (s1:ByteArray):Pure Try.prog 66 [.lit (.string s1)] (W7 K s1) (fun r=>Ab r):=by
 refine spec_of' Try.func66 rfl Try.ntmps66 (le_ rfl) ?_
 refine sSR Y<|sA Y Y<|j0<|J0<|sSR Y<|sM Y Y<|sQ (we Y Y) Y<|sM Y Y<|c3 (fun h2=>?_) (fun h2=>?_)
 ·refine sU 2 Y Y Y (dT h2) Y Y<|sU 2 Y Y Y (dT h2) Y Y<|sU 2 Y Y Y (dT h2) Y Y<|sQ (Q0 Y (dT h2) Y) Y<|sM Y Y<|sU 7 Y Y Y Y Y Y<|sU 7 Y Y Y Y Y Y<|sQ (Q0 Y Y Y) Y<|sM Y Y<|sU 11 Y Y Y Y Y Y<|sU 11 Y Y Y Y Y Y<|sU 11 Y Y Y Y Y Y<|sU 11 Y Y Y Y Y Y<|sQ (Q0 Y Y Y) Y<|j0<|y5 Y Y<|sSR Y<|sA Y Y<|j0<|P0 [] Try.func66 Try.results66 (rT Y) ⟨Y,Y⟩
 ·refine sG 2 Y Y Y (dF h2) Y (dMv Y) Y<|sG 2 Y Y Y (dF h2) Y (Jc Try.underlying9 Y) Y<|sG 2 Y Y Y (dF h2) Y (dGt Y Y) Y<|sQ (f0 Y (dF h2) Y) Y<|sM Y Y<|c3 (fun h3=>?_) (fun h3=>?_)
  ·refine sU 7 Y Y Y (dT h3) Y Y<|sU 7 Y Y Y (dT h3) Y Y<|sQ (Q0 Y (dT h3) Y) Y<|sM Y Y<|sU 11 Y Y Y Y Y Y<|sU 11 Y Y Y Y Y Y<|sU 11 Y Y Y Y Y Y<|sU 11 Y Y Y Y Y Y<|sQ (Q0 Y Y Y) Y<|j0<|y5 Y Y<|sSR Y<|sA Y Y<|j0<|P0 [] Try.func66 Try.results66 (rT Y) ⟨Y,Y⟩
  ·refine sG 7 Y Y Y (dF h3) Y (dMv Y) Y<|sG 7 Y Y Y (dF h3) Y (we Y Y) Y<|sQ (f0 Y (dF h3) Y) Y<|sM Y Y<|c3 (fun h4=>?_) (fun h4=>?_)
   ·refine sU 11 Y Y Y (dT h4) Y Y<|sU 11 Y Y Y (dT h4) Y Y<|sU 11 Y Y Y (dT h4) Y Y<|sU 11 Y Y Y (dT h4) Y Y<|sQ (Q0 Y (dT h4) Y) Y<|j0<|y5 Y Y<|sSR Y<|sA Y Y<|j0<|P0 [] Try.func66 Try.results66 (rT Y) ⟨Y,Y⟩
   ·refine sG 11 Y Y Y (dF h4) Y (dMv Y) Y<|M5 fun h5=>sG 11 Y Y Y (dF h4) Y (Vd Try.underlying9 Y Y (by decide) h5) Y<|y4 fun r6 e7=>sG 11 Y Y Y (dF h4) Y (J4 ent74 (Va K _) e7 (.s Y .nil)) Y<|sG 11 Y Y Y (dF h4) Y (c8 Y) Y<|sQ (f0 Y (dF h4) Y) Y<|j0<|c6 Y (fun h8=>?_) (fun h8=>?_)
    ·refine sSR Y<|sA Y Y<|j0<|P0 [] Try.func66 Try.results66 (rT Y) ⟨Y,Y⟩
    ·refine V0<|J0<|sSR Y<|sM Y Y<|sQ (Jc Try.underlying9 Y) Y<|sM Y Y<|j0<|J8 (W7.l0 K s1) (fun (t9:Int) (_:Unit)=>([(0,.lit (.string s1)),(22,Ai .i64 (s1.size:Int)),(23,Ai .i64 t9)]:Fr)) (fun (t9:Int) (_:Unit)=>([]:List Res)) () (fun _=>Y) [] ⟨Y,Y,Y,trivial⟩ Y ?_ ?_
     ·rintro t9 _
      refine sSR Y<|sA Y Y<|j0<|P0 [] Try.func66 Try.results66 (rT Y) ⟨Y,Y⟩
     ·rintro m t9 _ again0 out0
      refine sSR Y<|sQ (dLt Y Y) Y<|j0<|J0<|P2 Y (fun h10=>?_) (fun h10=>?_)
      ·refine V0<|J0<|M6<|sSR Y<|sM Y Y<|sA Y Y<|sES Y<|sM Y Y<|sM Y Y<|M5 fun h11=>sQ (Vd Try.underlying9 Y Y h11 h10) Y<|y4 fun r12 e13=>sQ (J4 ent75 (Pc K _) e13 (.s Y .nil)) Y<|sQ (c8 Y) Y<|j0<|c6 Y (fun h14=>?_) (fun h14=>?_)
       ·refine sSR Y<|sA Y Y<|j0<|m7<|P0 [] Try.func66 Try.results66 (rT Y) ⟨Y,Y⟩
       ·refine V0<|f2<|L4 Y<|sQ (k6 Y Y) Y<|sM Y Y<|j0<|M2 (again0 (IntKind.wrap .i64 (t9+1)) ()) [] ⟨Y,Y,Y,trivial⟩ Y
      ·refine f5 Y<|M2 (out0 t9 ()) [] ⟨Y,Y,Y,trivial⟩ Y
def V6.l0 (K:Nat) (ns1:(List ByteArray)):Nat→((List (ByteArray×Bool))×Int)→Option (((List (ByteArray×Bool))×Int) ⊕ Bool)
 | 0,_=>none
 | m+1,(c5,t6)=>if t6<(ns1.length:Int) then if 0≤t6 then (W7 K (rd ns1 t6)).bind fun r9=>if (!r9)=true then some (.inr false) else if (mgetD false c5 (rd ns1 t6))=true then some (.inr false) else V6.l0 K ns1 m (mput c5 (rd ns1 t6) true,IntKind.wrap .i64 (t6+1)) else none else some (.inl (c5,t6))
def V6 (K:Nat) (ns1:(List ByteArray)):Option Bool:=if (ns1.length:Int)<1 then some false else if 64<(ns1.length:Int) then some false else brk (V6.l0 K ns1 K (([]:(List (ByteArray×Bool))),0)) fun (c5,t6)=>some true
theorem bc (K:Nat) (ns1:(List ByteArray)):Pure Try.prog 49 [.fsl cS ns1] (V6 K ns1) (fun r=>Ab r):=by
 refine spec_of' Try.func49 rfl Try.ntmps49 (le_ rfl) ?_
 refine sSR Y<|sA Y Y<|j0<|J0<|sSR Y<|sM Y Y<|sQ (m4 Try.underlying22 Y) Y<|sQ (dLt Y Y) Y<|sM Y Y<|c3 (fun h2=>?_) (fun h2=>?_)
 ·refine sU 3 Y Y Y (dT h2) Y Y<|sU 3 Y Y Y (dT h2) Y Y<|sU 3 Y Y Y (dT h2) Y Y<|sQ (Q0 Y (dT h2) Y) Y<|j0<|y5 Y Y<|sSR Y<|sA Y Y<|j0<|P0 [] Try.func49 Try.results49 (rT Y) ⟨Y,Y⟩
 ·refine sG 3 Y Y Y (dF h2) Y (dMv Y) Y<|sG 3 Y Y Y (dF h2) Y (m4 Try.underlying22 Y) Y<|sG 3 Y Y Y (dF h2) Y (dGt Y Y) Y<|sQ (f0 Y (dF h2) Y) Y<|j0<|P2 Y (fun h3=>?_) (fun h3=>?_)
  ·refine sSR Y<|sA Y Y<|j0<|P0 [] Try.func49 Try.results49 (rT Y) ⟨Y,Y⟩
  ·refine V0<|sSR Y<|za (ek:=(fun x:ByteArray=>Value.string x)) (ev:=(fun x:Bool=>Value.bool x)) Y fun b4=>sA Y Y<|j0<|J0<|sSR Y<|sM Y Y<|sQ (m4 Try.underlying22 Y) Y<|sM Y Y<|j0<|J8 (V6.l0 K ns1) (fun ((c5,t6):((List (ByteArray×Bool))×Int)) (_:Unit)=>([(3,.lit (.map (some b4))),(15,.fsl cS ns1),(16,Ai .i64 (ns1.length:Int)),(17,Ai .i64 t6)]:Fr)) (fun ((c5,t6):((List (ByteArray×Bool))×Int)) (_:Unit)=>([.mp (fun x:ByteArray=>Value.string x) (fun x:Bool=>Value.bool x) b4 c5]:List Res)) () (fun _=>Y) [] ⟨Y,Y,Y,Y,trivial⟩ Y ?_ ?_
   ·rintro ⟨c5,t6⟩ _
    refine sSR Y<|sA Y Y<|j0<|P0 [0] Try.func49 Try.results49 (rT Y) ⟨Y,Y⟩
   ·rintro m ⟨c5,t6⟩ _ again0 out0
    refine sSR Y<|sQ (dLt Y Y) Y<|j0<|J0<|P2 Y (fun h7=>?_) (fun h7=>?_)
    ·refine V0<|J0<|M6<|sSR Y<|M5 fun h8=>sQ (dIx Try.underlying22 z9 Y Y h8 h7) Y<|sQ (dLd g9 Y Y) Y<|sA Y Y<|j0<|J0<|sSR Y<|sM Y Y<|y4 fun r9 e10=>sQ (J4 ent66 (Gc K _) e10 (.s Y .nil)) Y<|sQ (c8 Y) Y<|sM Y Y<|c3 (fun h11=>?_) (fun h11=>?_)
     ·refine sU 3 Y Y Y h11 Y Y<|sU 3 Y Y Y h11 Y Y<|sU 3 Y Y Y h11 Y Y<|sQ (Q0 Y h11 Y) Y<|j0<|y5 Y Y<|sSR Y<|sA Y Y<|j0<|m7<|P0 [0] Try.func49 Try.results49 (rT Y) ⟨Y,Y⟩
     ·refine sG 3 Y Y Y (eF h11) Y (dMv Y) Y<|sG 3 Y Y Y (eF h11) Y (dMv Y) Y<|sG 3 Y Y Y (eF h11) Y (Qe (j:=0) (z:=false) (ev:=(fun x:Bool=>Value.bool x)) mk9 Try.underlying121 zv4 Y Y Y (fun _ _ _ h=>h)) Y<|sQ (f0 Y (eF h11) Y) Y<|j0<|c6 Y (fun h12=>?_) (fun h12=>?_)
      ·refine sSR Y<|sA Y Y<|j0<|m7<|P0 [0] Try.func49 Try.results49 (rT Y) ⟨Y,Y⟩
      ·refine V0<|L4 Y<|sM Y Y<|sM Y Y<|qe (j:=0) (v:=true) (ev:=(fun x:Bool=>Value.bool x)) mk9 Try.underlying121 Y Y Y (fun _ _ _ h=>h) Y<|j0<|f2<|L4 Y<|sQ (k6 Y Y) Y<|sM Y Y<|j0<|M2 (again0 (mput c5 (rd ns1 t6) true,IntKind.wrap .i64 (t6+1)) ()) [0] ⟨Y,Y,Y,Y,trivial⟩ Y
    ·refine f5 Y<|M2 (out0 (c5,t6) ()) [0] ⟨Y,Y,Y,Y,trivial⟩ Y
def Q9 (K:Nat) (s1:Symbol) (names2:Int):Option Bool:=if s1.Name=(-1) then (if 0≤s1.Lo then if s1.Lo≤s1.Hi then some (decide (s1.Hi≤255)) else some false else some false).bind fun t4=>some t4 else if 0≤s1.Name then if s1.Name<names2 then if s1.Lo=0 then some (decide (s1.Hi=0)) else some false else some false else some false
theorem kc (K:Nat) (s1:Symbol) (names2:Int):Pure Try.prog 67 [.agg (cSymbol.e s1),Ai .i64 names2] (Q9 K s1 names2) (fun r=>Ab r):=by
 refine spec_of' Try.func67 rfl Try.ntmps67 (le_ rfl) ?_
 refine sSR Y<|sQ (Q6 (az:=cSymbol.e s1) Y cAgg) Y<|sA Y Y<|j0<|J0<|sSR Y<|sQ (dFA fa51_0 Y) Y<|sQ (dLd g3 Y Y) Y<|sQ (dEq Y Y) Y<|j0<|P2 Y (fun h3=>?_) (fun h3=>?_)
 ·refine J0<|fc (fun (t4:Bool) (_:Unit)=>([(4,Ab t4)]:Fr)) (fun (t4:Bool) (_:Unit)=>([]:List Res)) ?_ ?_
  ·rintro t4 _
   refine P0 [] Try.func67 Try.results67 (rT Y) ⟨Y,Y⟩
  ·intro join4
   refine L4 Y<|sQ (dFA fa51_1 Y) Y<|sQ (dLd g3 Y Y) Y<|sQ (dGe Y Y) Y<|sM Y Y<|c3 (fun h6=>?_) (fun h6=>?_)
   ·refine sG 3 Y Y Y (dT h6) Y (dFA fa51_1 Y) Y<|sG 3 Y Y Y (dT h6) Y (dLd g3 Y Y) Y<|sG 3 Y Y Y (dT h6) Y (dFA fa51_2 Y) Y<|sG 3 Y Y Y (dT h6) Y (dLd g3 Y Y) Y<|sG 3 Y Y Y (dT h6) Y (dLe Y Y) Y<|sQ (Q0 Y (dT h6) Y) Y<|sM Y Y<|c3 (fun h7=>?_) (fun h7=>?_)
    ·refine sG 10 Y Y Y (dT h7) Y (dFA fa51_2 Y) Y<|sG 10 Y Y Y (dT h7) Y (dLd g3 Y Y) Y<|sG 10 Y Y Y (dT h7) Y (dLe Y Y) Y<|sQ (Q0 Y (dT h7) Y) Y<|sA Y Y<|j0<|M2 (join4 (decide (s1.Hi≤255)) ()) [] ⟨Y,trivial⟩ Y
    ·refine sU 10 Y Y Y (dF h7) Y Y<|sU 10 Y Y Y (dF h7) Y Y<|sU 10 Y Y Y (dF h7) Y Y<|sQ (f0 Y (dF h7) Y) Y<|sA Y Y<|j0<|M2 (join4 false ()) [] ⟨Y,trivial⟩ Y
   ·refine sU 3 Y Y Y (dF h6) Y Y<|sU 3 Y Y Y (dF h6) Y Y<|sU 3 Y Y Y (dF h6) Y Y<|sU 3 Y Y Y (dF h6) Y Y<|sU 3 Y Y Y (dF h6) Y Y<|sQ (f0 Y (dF h6) Y) Y<|sM Y Y<|sU 10 Y Y Y Y Y Y<|sU 10 Y Y Y Y Y Y<|sU 10 Y Y Y Y Y Y<|sQ (f0 Y Y Y) Y<|sA Y Y<|j0<|M2 (join4 false ()) [] ⟨Y,trivial⟩ Y
 ·refine V0<|sSR Y<|sQ (dFA fa51_0 Y) Y<|sQ (dLd g3 Y Y) Y<|sQ (dGe Y Y) Y<|sM Y Y<|c3 (fun h8=>?_) (fun h8=>?_)
  ·refine sG 3 Y Y Y (dT h8) Y (dFA fa51_0 Y) Y<|sG 3 Y Y Y (dT h8) Y (dLd g3 Y Y) Y<|sG 3 Y Y Y (dT h8) Y (dMv Y) Y<|sG 3 Y Y Y (dT h8) Y (dLt Y Y) Y<|sQ (Q0 Y (dT h8) Y) Y<|sM Y Y<|c3 (fun h9=>?_) (fun h9=>?_)
   ·refine sG 9 Y Y Y (dT h9) Y (dFA fa51_1 Y) Y<|sG 9 Y Y Y (dT h9) Y (dLd g3 Y Y) Y<|sG 9 Y Y Y (dT h9) Y (dEq Y Y) Y<|sQ (Q0 Y (dT h9) Y) Y<|sM Y Y<|c3 (fun h10=>?_) (fun h10=>?_)
    ·refine sG 14 Y Y Y (dT h10) Y (dFA fa51_2 Y) Y<|sG 14 Y Y Y (dT h10) Y (dLd g3 Y Y) Y<|sG 14 Y Y Y (dT h10) Y (dEq Y Y) Y<|sQ (Q0 Y (dT h10) Y) Y<|sA Y Y<|j0<|P0 [] Try.func67 Try.results67 (rT Y) ⟨Y,Y⟩
    ·refine sU 14 Y Y Y (dF h10) Y Y<|sU 14 Y Y Y (dF h10) Y Y<|sU 14 Y Y Y (dF h10) Y Y<|sQ (f0 Y (dF h10) Y) Y<|sA Y Y<|j0<|P0 [] Try.func67 Try.results67 (rT Y) ⟨Y,Y⟩
   ·refine sU 9 Y Y Y (dF h9) Y Y<|sU 9 Y Y Y (dF h9) Y Y<|sU 9 Y Y Y (dF h9) Y Y<|sQ (f0 Y (dF h9) Y) Y<|sM Y Y<|sU 14 Y Y Y Y Y Y<|sU 14 Y Y Y Y Y Y<|sU 14 Y Y Y Y Y Y<|sQ (f0 Y Y Y) Y<|sA Y Y<|j0<|P0 [] Try.func67 Try.results67 (rT Y) ⟨Y,Y⟩
  ·refine sU 3 Y Y Y (dF h8) Y Y<|sU 3 Y Y Y (dF h8) Y Y<|sU 3 Y Y Y (dF h8) Y Y<|sU 3 Y Y Y (dF h8) Y Y<|sQ (f0 Y (dF h8) Y) Y<|sM Y Y<|sU 9 Y Y Y Y Y Y<|sU 9 Y Y Y Y Y Y<|sU 9 Y Y Y Y Y Y<|sQ (f0 Y Y Y) Y<|sM Y Y<|sU 14 Y Y Y Y Y Y<|sU 14 Y Y Y Y Y Y<|sU 14 Y Y Y Y Y Y<|sQ (f0 Y Y Y) Y<|sA Y Y<|j0<|P0 [] Try.func67 Try.results67 (rT Y) ⟨Y,Y⟩
def L5.l1 (K:Nat) (r1:Rule) (names2:Int) (t6:Int):Nat→Int→Option (Int ⊕ ((Int×Int) ⊕ (Int×Bool)))
 | 0,_=>none
 | m+1,t11=>if t11<(((rd r1.Conj t6).Seq).length:Int) then if 0≤t11 then (Q9 K (⟨(rd ((rd r1.Conj t6).Seq) t11).Name,(rd ((rd r1.Conj t6).Seq) t11).Lo,(rd ((rd r1.Conj t6).Seq) t11).Hi⟩:Symbol) names2).bind fun r15=>if (!r15)=true then some (.inr (.inr (0,false))) else L5.l1 K r1 names2 t6 m (IntKind.wrap .i64 (t11+1)) else none else some (.inl t11)
def L5.l0 (K:Nat) (r1:Rule) (names2:Int):Nat→(Int×Int)→Option ((Int×Int) ⊕ (Int×Bool))
 | 0,_=>none
 | m+1,(n5,t6)=>if t6<(r1.Conj.length:Int) then if 0≤t6 then if 64<(((rd r1.Conj t6).Seq).length:Int) then some (.inr (0,false)) else brk (L5.l1 K r1 names2 t6 K 0) fun t11=>L5.l0 K r1 names2 m (IntKind.wrap .i64 (n5+(((rd r1.Conj t6).Seq).length:Int)),IntKind.wrap .i64 (t6+1)) else none else some (.inl (n5,t6))
def L5 (K:Nat) (r1:Rule) (names2:Int):Option (Int×Bool):=if (r1.Conj.length:Int)<1 then some (0,false) else if 8<(r1.Conj.length:Int) then some (0,false) else brk (L5.l0 K r1 names2 K (0,0)) fun (n5,t6)=>some (n5,true)
theorem wc (K:Nat) (r1:Rule) (names2:Int):Pure Try.prog 50 [.fptr (cRule.e r1),Ai .i64 names2] (L5 K r1 names2) (fun r=>.tup [Ai .i64 r.1,Ab r.2]):=by
 refine spec_of' Try.func50 rfl Try.ntmps50 (le_ rfl) ?_
 refine sSR Y<|sA Y Y<|sA Y Y<|j0<|J0<|sSR Y<|sM Y Y<|sQ (dNc ptF Y) Y<|sQ (dFA fa61_1 Y) Y<|sQ (dLd g59 Y Y) Y<|sQ (m4 Try.underlying59 Y) Y<|sQ (dLt Y Y) Y<|sM Y Y<|c3 (fun h3=>?_) (fun h3=>?_)
 ·refine sU 6 Y Y Y (dT h3) Y Y<|sU 6 Y Y Y (dT h3) Y Y<|sU 6 Y Y Y (dT h3) Y Y<|sU 6 Y Y Y (dT h3) Y Y<|sU 6 Y Y Y (dT h3) Y Y<|sU 6 Y Y Y (dT h3) Y Y<|sQ (Q0 Y (dT h3) Y) Y<|j0<|y5 Y Y<|sSR Y<|sA Y Y<|sA Y Y<|j0<|M7 [] Try.func50 Try.results50 (rT Y) (rT Y) ⟨Y,Y⟩
 ·refine sG 6 Y Y Y (dF h3) Y (dMv Y) Y<|sG 6 Y Y Y (dF h3) Y (dNc ptF Y) Y<|sG 6 Y Y Y (dF h3) Y (dFA fa61_1 Y) Y<|sG 6 Y Y Y (dF h3) Y (dLd g59 Y Y) Y<|sG 6 Y Y Y (dF h3) Y (m4 Try.underlying59 Y) Y<|sG 6 Y Y Y (dF h3) Y (dGt Y Y) Y<|sQ (f0 Y (dF h3) Y) Y<|j0<|P2 Y (fun h4=>?_) (fun h4=>?_)
  ·refine sSR Y<|sA Y Y<|sA Y Y<|j0<|M7 [] Try.func50 Try.results50 (rT Y) (rT Y) ⟨Y,Y⟩
  ·refine V0<|sSR Y<|sA Y Y<|j0<|J0<|sSR Y<|sM Y Y<|sQ (dNc ptF Y) Y<|sQ (dFA fa61_1 Y) Y<|sQ (dLd g59 Y Y) Y<|sQ (m4 Try.underlying59 Y) Y<|sM Y Y<|j0<|J8 (L5.l0 K r1 names2) (fun ((n5,t6):(Int×Int)) (_:Unit)=>([(1,Ai .i64 names2),(6,Ai .i64 n5),(28,.fsl cConjunct r1.Conj),(29,Ai .i64 (r1.Conj.length:Int)),(30,Ai .i64 t6)]:Fr)) (fun ((n5,t6):(Int×Int)) (_:Unit)=>([]:List Res)) () (fun _=>Y) [] ⟨Y,Y,Y,Y,Y,trivial⟩ Y ?_ ?_
   ·rintro ⟨n5,t6⟩ _
    refine sSR Y<|sM Y Y<|sA Y Y<|sA Y Y<|j0<|M7 [] Try.func50 Try.results50 (rT Y) (rT Y) ⟨Y,Y⟩
   ·rintro m ⟨n5,t6⟩ _ again0 out0
    refine sSR Y<|sQ (dLt Y Y) Y<|j0<|J0<|P2 Y (fun h7=>?_) (fun h7=>?_)
    ·refine V0<|J0<|M6<|sSR Y<|M5 fun h8=>sQ (dIx Try.underlying59 z58 Y Y h8 h7) Y<|sQ (J6 g58 z58 Y (le_ Y)) Y<|m6 (az:=[Ab false,.lit (.slice none 0 0)]) al58 (fun _ _=>.cons Y (.cons Y .nil)) Y fun b9=>Q7 (j:=0) z58 Y Y Y cAgg ((cConjunct).one _) Y (le_ Y)<|j0<|J0<|sSR Y<|sQ (b5 fa58_1 Y) Y<|sQ (L6 (j:=0) g56 Y Y Y) Y<|sQ (m4 Try.underlying56 Y) Y<|sQ (dGt Y Y) Y<|j0<|P2 Y (fun h10=>?_) (fun h10=>?_)
     ·refine sSR Y<|sA Y Y<|sA Y Y<|j0<|m7<|M7 [0] Try.func50 Try.results50 (rT Y) (rT Y) ⟨Y,Y⟩
     ·refine V0<|J0<|sSR Y<|sQ (b5 fa58_1 Y) Y<|sQ (L6 (j:=0) g56 Y Y Y) Y<|sQ (m4 Try.underlying56 Y) Y<|sM Y Y<|j0<|J8 (L5.l1 K r1 names2 t6) (fun (t11:Int) (_:Unit)=>([(1,Ai .i64 names2),(6,Ai .i64 n5),(8,.lit (.pointer (some ⟨b9,0,none⟩))),(28,.fsl cConjunct r1.Conj),(29,Ai .i64 (r1.Conj.length:Int)),(30,Ai .i64 t6),(39,.fsl cSymbol ((rd r1.Conj t6).Seq)),(40,Ai .i64 (((rd r1.Conj t6).Seq).length:Int)),(41,Ai .i64 t11)]:Fr)) (fun (t11:Int) (_:Unit)=>([.box b9 [Ab ((rd r1.Conj t6).Neg),.fsl cSymbol ((rd r1.Conj t6).Seq)]]:List Res)) () (fun _=>Y) [] ⟨Y,Y,Y,Y,Y,Y,Y,Y,Y,trivial⟩ Y ?_ ?_
      ·rintro t11 _
       refine L4 Y<|sM Y Y<|sQ (b5 fa58_1 Y) Y<|sQ (L6 (j:=0) g56 Y Y Y) Y<|sQ (m4 Try.underlying56 Y) Y<|sQ (k6 Y Y) Y<|sA Y Y<|j0<|f2<|L4 Y<|sQ (k6 Y Y) Y<|sM Y Y<|j0<|M2 (again0 (IntKind.wrap .i64 (n5+(((rd r1.Conj t6).Seq).length:Int)),IntKind.wrap .i64 (t6+1)) ()) [] ⟨Y,Y,Y,Y,Y,trivial⟩ Y
      ·rintro m t11 _ again1 out1
       refine sSR Y<|sQ (dLt Y Y) Y<|j0<|J0<|P2 Y (fun h12=>?_) (fun h12=>?_)
       ·refine V0<|J0<|M6<|sSR Y<|M5 fun h13=>sQ (dIx Try.underlying56 z51 Y Y h13 h12) Y<|sQ (J6 g51 z51 Y (le_ Y)) Y<|m6 (az:=[Ai .i64 (0:Int),Ai .i64 (0:Int),Ai .i64 (0:Int)]) al51 (fun _ _=>.cons Y (.cons Y (.cons Y .nil))) Y fun b14=>Q7 (j:=0) z51 Y Y Y cAgg ((cSymbol).one _) Y (le_ Y)<|sES Y<|sQ (W6 (j:=0) g51 z51 Y Y (le_ Y)) Y<|sM Y Y<|y4 fun r15 e16=>sQ (J4 ent67 (kc K _ _) e16 (.s Y<|.s Y .nil)) Y<|sQ (c8 Y) Y<|j0<|c6 Y (fun h17=>?_) (fun h17=>?_)
        ·refine sSR Y<|sA Y Y<|sA Y Y<|j0<|m7<|m7<|M7 [1,0] Try.func50 Try.results50 (rT Y) (rT Y) ⟨Y,Y⟩
        ·refine V0<|f2<|L4 Y<|sQ (k6 Y Y) Y<|sM Y Y<|j0<|M2 (again1 (IntKind.wrap .i64 (t11+1)) ()) [1] ⟨Y,Y,Y,Y,Y,Y,Y,Y,Y,trivial⟩ Y
       ·refine f5 Y<|M2 (out1 t11 ()) [0] ⟨Y,Y,Y,Y,Y,Y,Y,Y,Y,trivial⟩ Y
    ·refine f5 Y<|M2 (out0 (n5,t6) ()) [] ⟨Y,Y,Y,Y,Y,trivial⟩ Y
def G6.l0 (K:Nat) (g1:Grammar):Nat→(Int×Int×Int)→Option ((Int×Int×Int) ⊕ Bool)
 | 0,_=>none
 | m+1,(head9,all10,t11)=>if t11<(g1.Rules.length:Int) then if 0≤t11 then (L5 K (rd g1.Rules t11) (g1.Names.length:Int)).bind fun r14=>if (!r14.2)=true then some (.inr false) else if ((rd g1.Rules t11).Head)<head9 then some (.inr false) else if (IntKind.wrap .i64 (head9+1))<((rd g1.Rules t11).Head) then some (.inr false) else if 1024<(IntKind.wrap .i64 (all10+r14.1)) then some (.inr false) else G6.l0 K g1 m ((rd g1.Rules t11).Head,IntKind.wrap .i64 (all10+r14.1),IntKind.wrap .i64 (t11+1)) else none else some (.inl (head9,all10,t11))
def G6 (K:Nat) (g1:Grammar):Option Bool:=(V6 K g1.Names).bind fun r2=>if (!r2)=true then some false else if g1.Start<0 then some false else if (g1.Names.length:Int)≤g1.Start then some false else if (g1.Rules.length:Int)<1 then some false else if 256<(g1.Rules.length:Int) then some false else brk (G6.l0 K g1 K ((-1),0,0)) fun (head9,all10,t11)=>if 0<(g1.Rules.length:Int) then if ((rd g1.Rules 0).Head)=0 then some (decide (head9=(IntKind.wrap .i64 ((g1.Names.length:Int)-1)))) else some false else none
theorem Gb (K:Nat) (g1:Grammar):Pure Try.prog 27 [.agg (cGrammar.e g1)] (G6 K g1) (fun r=>Ab r):=by
 refine spec_of' Try.func27 rfl Try.ntmps27 (le_ rfl) ?_
 refine sSR Y<|sQ (Q6 (az:=cGrammar.e g1) Y cAgg) Y<|sA Y Y<|j0<|J0<|sSR Y<|sQ (dFA fa25_1 Y) Y<|sQ (dLd g22 Y Y) Y<|y4 fun r2 e3=>sQ (J4 ent49 (bc K _) e3 (.s Y .nil)) Y<|sQ (c8 Y) Y<|sM Y Y<|c3 (fun h4=>?_) (fun h4=>?_)
 ·refine sU 4 Y Y Y h4 Y Y<|sU 4 Y Y Y h4 Y Y<|sU 4 Y Y Y h4 Y Y<|sQ (Q0 Y h4 Y) Y<|sM Y Y<|sU 9 Y Y Y Y Y Y<|sU 9 Y Y Y Y Y Y<|sU 9 Y Y Y Y Y Y<|sU 9 Y Y Y Y Y Y<|sU 9 Y Y Y Y Y Y<|sU 9 Y Y Y Y Y Y<|sQ (Q0 Y Y Y) Y<|sM Y Y<|sU 17 Y Y Y Y Y Y<|sU 17 Y Y Y Y Y Y<|sU 17 Y Y Y Y Y Y<|sU 17 Y Y Y Y Y Y<|sQ (Q0 Y Y Y) Y<|sM Y Y<|sU 23 Y Y Y Y Y Y<|sU 23 Y Y Y Y Y Y<|sU 23 Y Y Y Y Y Y<|sU 23 Y Y Y Y Y Y<|sQ (Q0 Y Y Y) Y<|j0<|y5 Y Y<|sSR Y<|sA Y Y<|j0<|P0 [] Try.func27 Try.results27 (rT Y) ⟨Y,Y⟩
 ·refine sG 4 Y Y Y (eF h4) Y (dFA fa25_0 Y) Y<|sG 4 Y Y Y (eF h4) Y (dLd g3 Y Y) Y<|sG 4 Y Y Y (eF h4) Y (dLt Y Y) Y<|sQ (f0 Y (eF h4) Y) Y<|sM Y Y<|c3 (fun h5=>?_) (fun h5=>?_)
  ·refine sU 9 Y Y Y (dT h5) Y Y<|sU 9 Y Y Y (dT h5) Y Y<|sU 9 Y Y Y (dT h5) Y Y<|sU 9 Y Y Y (dT h5) Y Y<|sU 9 Y Y Y (dT h5) Y Y<|sU 9 Y Y Y (dT h5) Y Y<|sQ (Q0 Y (dT h5) Y) Y<|sM Y Y<|sU 17 Y Y Y Y Y Y<|sU 17 Y Y Y Y Y Y<|sU 17 Y Y Y Y Y Y<|sU 17 Y Y Y Y Y Y<|sQ (Q0 Y Y Y) Y<|sM Y Y<|sU 23 Y Y Y Y Y Y<|sU 23 Y Y Y Y Y Y<|sU 23 Y Y Y Y Y Y<|sU 23 Y Y Y Y Y Y<|sQ (Q0 Y Y Y) Y<|j0<|y5 Y Y<|sSR Y<|sA Y Y<|j0<|P0 [] Try.func27 Try.results27 (rT Y) ⟨Y,Y⟩
  ·refine sG 9 Y Y Y (dF h5) Y (dFA fa25_0 Y) Y<|sG 9 Y Y Y (dF h5) Y (dLd g3 Y Y) Y<|sG 9 Y Y Y (dF h5) Y (dFA fa25_1 Y) Y<|sG 9 Y Y Y (dF h5) Y (dLd g22 Y Y) Y<|sG 9 Y Y Y (dF h5) Y (m4 Try.underlying22 Y) Y<|sG 9 Y Y Y (dF h5) Y (dGe Y Y) Y<|sQ (f0 Y (dF h5) Y) Y<|sM Y Y<|c3 (fun h6=>?_) (fun h6=>?_)
   ·refine sU 17 Y Y Y (dT h6) Y Y<|sU 17 Y Y Y (dT h6) Y Y<|sU 17 Y Y Y (dT h6) Y Y<|sU 17 Y Y Y (dT h6) Y Y<|sQ (Q0 Y (dT h6) Y) Y<|sM Y Y<|sU 23 Y Y Y Y Y Y<|sU 23 Y Y Y Y Y Y<|sU 23 Y Y Y Y Y Y<|sU 23 Y Y Y Y Y Y<|sQ (Q0 Y Y Y) Y<|j0<|y5 Y Y<|sSR Y<|sA Y Y<|j0<|P0 [] Try.func27 Try.results27 (rT Y) ⟨Y,Y⟩
   ·refine sG 17 Y Y Y (dF h6) Y (dFA fa25_2 Y) Y<|sG 17 Y Y Y (dF h6) Y (dLd g23 Y Y) Y<|sG 17 Y Y Y (dF h6) Y (m4 Try.underlying23 Y) Y<|sG 17 Y Y Y (dF h6) Y (dLt Y Y) Y<|sQ (f0 Y (dF h6) Y) Y<|sM Y Y<|c3 (fun h7=>?_) (fun h7=>?_)
    ·refine sU 23 Y Y Y (dT h7) Y Y<|sU 23 Y Y Y (dT h7) Y Y<|sU 23 Y Y Y (dT h7) Y Y<|sU 23 Y Y Y (dT h7) Y Y<|sQ (Q0 Y (dT h7) Y) Y<|j0<|y5 Y Y<|sSR Y<|sA Y Y<|j0<|P0 [] Try.func27 Try.results27 (rT Y) ⟨Y,Y⟩
    ·refine sG 23 Y Y Y (dF h7) Y (dFA fa25_2 Y) Y<|sG 23 Y Y Y (dF h7) Y (dLd g23 Y Y) Y<|sG 23 Y Y Y (dF h7) Y (m4 Try.underlying23 Y) Y<|sG 23 Y Y Y (dF h7) Y (dGt Y Y) Y<|sQ (f0 Y (dF h7) Y) Y<|j0<|P2 Y (fun h8=>?_) (fun h8=>?_)
     ·refine sSR Y<|sA Y Y<|j0<|P0 [] Try.func27 Try.results27 (rT Y) ⟨Y,Y⟩
     ·refine V0<|sSR Y<|sA Y Y<|sA Y Y<|j0<|J0<|sSR Y<|sQ (dFA fa25_2 Y) Y<|sQ (dLd g23 Y Y) Y<|sQ (m4 Try.underlying23 Y) Y<|sM Y Y<|j0<|J8 (G6.l0 K g1) (fun ((head9,all10,t11):(Int×Int×Int)) (_:Unit)=>([(1,.fptr ((cGrammar.e g1))),(3,Ai .i64 head9),(4,Ai .i64 all10),(40,Ai .i64 (g1.Rules.length:Int)),(41,Ai .i64 t11)]:Fr)) (fun ((head9,all10,t11):(Int×Int×Int)) (_:Unit)=>([]:List Res)) () (fun _=>Y) [] ⟨Y,Y,Y,Y,Y,trivial⟩ Y ?_ ?_
      ·rintro ⟨head9,all10,t11⟩ _
       refine sSR Y<|sQ (dFA fa25_2 Y) Y<|sQ (dLd g23 Y Y) Y<|M5 fun h20=>sQ (dIx Try.underlying23 z61 Y Y (by decide) h20) Y<|sQ (dFA fa61_0 Y) Y<|sQ (dLd g3 Y Y) Y<|sQ (dEq Y Y) Y<|sM Y Y<|c3 (fun h21=>?_) (fun h21=>?_)
       ·refine sG 6 Y Y Y (dT h21) Y (dMv Y) Y<|sG 6 Y Y Y (dT h21) Y (dFA fa25_1 Y) Y<|sG 6 Y Y Y (dT h21) Y (dLd g22 Y Y) Y<|sG 6 Y Y Y (dT h21) Y (m4 Try.underlying22 Y) Y<|sG 6 Y Y Y (dT h21) Y (te Y Y) Y<|sG 6 Y Y Y (dT h21) Y (dEq Y Y) Y<|sQ (Q0 Y (dT h21) Y) Y<|sA Y Y<|j0<|P0 [] Try.func27 Try.results27 (rT Y) ⟨Y,Y⟩
       ·refine sU 6 Y Y Y (dF h21) Y Y<|sU 6 Y Y Y (dF h21) Y Y<|sU 6 Y Y Y (dF h21) Y Y<|sU 6 Y Y Y (dF h21) Y Y<|sU 6 Y Y Y (dF h21) Y Y<|sU 6 Y Y Y (dF h21) Y Y<|sQ (f0 Y (dF h21) Y) Y<|sA Y Y<|j0<|P0 [] Try.func27 Try.results27 (rT Y) ⟨Y,Y⟩
      ·rintro m ⟨head9,all10,t11⟩ _ again0 out0
       refine sSR Y<|sQ (dLt Y Y) Y<|j0<|J0<|P2 Y (fun h12=>?_) (fun h12=>?_)
       ·refine V0<|J0<|M6<|sSR Y<|sM Y Y<|sA Y Y<|sES Y<|sQ (dFA fa25_2 Y) Y<|sQ (dLd g23 Y Y) Y<|sM Y Y<|M5 fun h13=>sQ (dIx Try.underlying23 z61 Y Y h13 h12) Y<|sA Y Y<|sES Y<|sM Y Y<|sQ (dFA fa25_1 Y) Y<|sQ (dLd g22 Y Y) Y<|sQ (m4 Try.underlying22 Y) Y<|y4 fun r14 e15=>sQ (J4 ent50 (wc K _ _) e15 (.s Y<|.s Y .nil)) Y<|sM Y Y<|sQ (dX Y Y) Y<|sQ (dX Y Y) Y<|sA Y Y<|sA Y Y<|j0<|J0<|sSR Y<|sM Y Y<|sQ (c8 Y) Y<|sM Y Y<|c3 (fun h16=>?_) (fun h16=>?_)
        ·refine sU 2 Y Y Y h16 Y Y<|sU 2 Y Y Y h16 Y Y<|sU 2 Y Y Y h16 Y Y<|sU 2 Y Y Y h16 Y Y<|sU 2 Y Y Y h16 Y Y<|sU 2 Y Y Y h16 Y Y<|sQ (Q0 Y h16 Y) Y<|sM Y Y<|sU 10 Y Y Y Y Y Y<|sU 10 Y Y Y Y Y Y<|sU 10 Y Y Y Y Y Y<|sU 10 Y Y Y Y Y Y<|sU 10 Y Y Y Y Y Y<|sU 10 Y Y Y Y Y Y<|sU 10 Y Y Y Y Y Y<|sQ (Q0 Y Y Y) Y<|j0<|y5 Y Y<|sSR Y<|sA Y Y<|j0<|m7<|P0 [] Try.func27 Try.results27 (rT Y) ⟨Y,Y⟩
        ·refine sG 2 Y Y Y (eF h16) Y (dMv Y) Y<|sG 2 Y Y Y (eF h16) Y (dNc ptF Y) Y<|sG 2 Y Y Y (eF h16) Y (dFA fa61_0 Y) Y<|sG 2 Y Y Y (eF h16) Y (dLd g3 Y Y) Y<|sG 2 Y Y Y (eF h16) Y (dMv Y) Y<|sG 2 Y Y Y (eF h16) Y (dLt Y Y) Y<|sQ (f0 Y (eF h16) Y) Y<|sM Y Y<|c3 (fun h17=>?_) (fun h17=>?_)
         ·refine sU 10 Y Y Y (dT h17) Y Y<|sU 10 Y Y Y (dT h17) Y Y<|sU 10 Y Y Y (dT h17) Y Y<|sU 10 Y Y Y (dT h17) Y Y<|sU 10 Y Y Y (dT h17) Y Y<|sU 10 Y Y Y (dT h17) Y Y<|sU 10 Y Y Y (dT h17) Y Y<|sQ (Q0 Y (dT h17) Y) Y<|j0<|y5 Y Y<|sSR Y<|sA Y Y<|j0<|m7<|P0 [] Try.func27 Try.results27 (rT Y) ⟨Y,Y⟩
         ·refine sG 10 Y Y Y (dF h17) Y (dMv Y) Y<|sG 10 Y Y Y (dF h17) Y (dNc ptF Y) Y<|sG 10 Y Y Y (dF h17) Y (dFA fa61_0 Y) Y<|sG 10 Y Y Y (dF h17) Y (dLd g3 Y Y) Y<|sG 10 Y Y Y (dF h17) Y (dMv Y) Y<|sG 10 Y Y Y (dF h17) Y (k6 Y Y) Y<|sG 10 Y Y Y (dF h17) Y (dGt Y Y) Y<|sQ (f0 Y (dF h17) Y) Y<|j0<|P2 Y (fun h18=>?_) (fun h18=>?_)
          ·refine sSR Y<|sA Y Y<|j0<|m7<|P0 [] Try.func27 Try.results27 (rT Y) ⟨Y,Y⟩
          ·refine V0<|sSR Y<|sM Y Y<|sQ (dNc ptF Y) Y<|sQ (dFA fa61_0 Y) Y<|sQ (dLd g3 Y Y) Y<|sA Y Y<|sES Y<|sM Y Y<|sM Y Y<|sQ (k6 Y Y) Y<|sA Y Y<|sES Y<|sM Y Y<|sQ (dGt Y Y) Y<|j0<|P2 Y (fun h19=>?_) (fun h19=>?_)
           ·refine sSR Y<|sA Y Y<|j0<|m7<|P0 [] Try.func27 Try.results27 (rT Y) ⟨Y,Y⟩
           ·refine V0<|f2<|L4 Y<|sQ (k6 Y Y) Y<|sM Y Y<|j0<|M2 (again0 ((rd g1.Rules t11).Head,IntKind.wrap .i64 (all10+r14.1),IntKind.wrap .i64 (t11+1)) ()) [] ⟨Y,Y,Y,Y,Y,trivial⟩ Y
       ·refine f5 Y<|M2 (out0 (head9,all10,t11) ()) [] ⟨Y,Y,Y,Y,Y,trivial⟩ Y
def seqs_Is (K:Nat) (g1:Grammar) (p2:Place):Option Bool:=if p2.Rule<0 then some false else if (g1.Rules.length:Int)≤p2.Rule then some false else if p2.Rule<(g1.Rules.length:Int) then if 0≤p2.Conj then if p2.Conj<(((rd g1.Rules p2.Rule).Conj).length:Int) then if 0≤p2.Pos then some (decide (p2.Pos≤(((rd ((rd g1.Rules p2.Rule).Conj) p2.Conj).Seq).length:Int))) else some false else some false else some false else none
theorem seqs_Is_ok (K:Nat) (g1:Grammar) (p2:Place):Pure Try.prog 30 [.fptr (cGrammar.e g1),.agg (cPlace.e p2)] (seqs_Is K g1 p2) (fun r=>Ab r):=by
 refine spec_of' Try.func30 rfl Try.ntmps30 (le_ rfl) ?_
 refine sSR Y<|sQ (Q6 (az:=cPlace.e p2) Y cAgg) Y<|sA Y Y<|j0<|J0<|J0<|va (fun h3=>?_) (fun h3=>?_)
 ·refine W5 13 mixed Y (by kernel_rfl) (by kernel_rfl) (by kernel_rfl) (.r (dFA fa55_0 Y) Y<|.r (dLd g3 Y Y) Y<|.r (dLt Y Y) Y<|.m Y Y<|.w 3 Y Y Y (dT h3) Y Y<|.w 3 Y Y Y (dT h3) Y Y<|.w 3 Y Y Y (dT h3) Y Y<|.w 3 Y Y Y (dT h3) Y Y<|.w 3 Y Y Y (dT h3) Y Y<|.w 3 Y Y Y (dT h3) Y Y<|.w 3 Y Y Y (dT h3) Y Y<|.w 3 Y Y Y (dT h3) Y Y<|.r (Q0 Y (dT h3) Y) Y .n) Y<|j0<|y5 Y Y<|sSR Y<|sA Y Y<|j0<|P0 [] Try.func30 Try.results30 (rT Y) ⟨Y,Y⟩
 ·refine W5 13 mixed Y (by kernel_rfl) (by kernel_rfl) (by kernel_rfl) (.r (dFA fa55_0 Y) Y<|.r (dLd g3 Y Y) Y<|.r (dLt Y Y) Y<|.m Y Y<|.g 3 Y Y Y (dF h3) Y (dFA fa55_0 Y) Y<|.g 3 Y Y Y (dF h3) Y (dLd g3 Y Y) Y<|.g 3 Y Y Y (dF h3) Y (dMv Y) Y<|.g 3 Y Y Y (dF h3) Y (dNc ptF Y) Y<|.g 3 Y Y Y (dF h3) Y (dFA fa25_2 Y) Y<|.g 3 Y Y Y (dF h3) Y (dLd g23 Y Y) Y<|.g 3 Y Y Y (dF h3) Y (m4 Try.underlying23 Y) Y<|.g 3 Y Y Y (dF h3) Y (dGe Y Y) Y<|.r (f0 Y (dF h3) Y) Y .n) Y<|j0<|P2 Y (fun h4=>?_) (fun h4=>?_)
  ·refine sSR Y<|sA Y Y<|j0<|P0 [] Try.func30 Try.results30 (rT Y) ⟨Y,Y⟩
  ·refine V0<|J0<|sIf fun h5=>W5 8 mixed Y (by kernel_rfl) (by kernel_rfl) (by kernel_rfl) (.m Y Y<|.r (dNc ptF Y) Y<|.r (dFA fa25_2 Y) Y<|.r (dLd g23 Y Y) Y<|.r (dFA fa55_0 Y) Y<|.r (dLd g3 Y Y) Y<|.r (dIx Try.underlying23 z61 Y Y (Int.not_lt.1 h3) h5) Y<|.r (dAs Y) Y .n) Y<|j0<|J0<|va (fun h6=>?_) (fun h6=>?_)
   ·refine va (fun h7=>?_) (fun h7=>?_)
    ·refine va (fun h8=>?_) (fun h8=>?_)
     ·refine W5 34 mixed Y (by kernel_rfl) (by kernel_rfl) (by kernel_rfl) (.r (dFA fa55_1 Y) Y<|.r (dLd g3 Y Y) Y<|.r (dGe Y Y) Y<|.m Y Y<|.g 3 Y Y Y (dT h6) Y (dFA fa55_1 Y) Y<|.g 3 Y Y Y (dT h6) Y (dLd g3 Y Y) Y<|.g 3 Y Y Y (dT h6) Y (dMv Y) Y<|.g 3 Y Y Y (dT h6) Y (dNc ptF Y) Y<|.g 3 Y Y Y (dT h6) Y (dFA fa61_1 Y) Y<|.g 3 Y Y Y (dT h6) Y (dLd g59 Y Y) Y<|.g 3 Y Y Y (dT h6) Y (m4 Try.underlying59 Y) Y<|.g 3 Y Y Y (dT h6) Y (dLt Y Y) Y<|.r (Q0 Y (dT h6) Y) Y<|.m Y Y<|.g 13 Y Y Y (dT h7) Y (dFA fa55_2 Y) Y<|.g 13 Y Y Y (dT h7) Y (dLd g3 Y Y) Y<|.g 13 Y Y Y (dT h7) Y (dGe Y Y) Y<|.r (Q0 Y (dT h7) Y) Y<|.m Y Y<|.g 18 Y Y Y (dT h8) Y (dFA fa55_2 Y) Y<|.g 18 Y Y Y (dT h8) Y (dLd g3 Y Y) Y<|.g 18 Y Y Y (dT h8) Y (dMv Y) Y<|.g 18 Y Y Y (dT h8) Y (dNc ptF Y) Y<|.g 18 Y Y Y (dT h8) Y (dFA fa61_1 Y) Y<|.g 18 Y Y Y (dT h8) Y (dLd g59 Y Y) Y<|.g 18 Y Y Y (dT h8) Y (dFA fa55_1 Y) Y<|.g 18 Y Y Y (dT h8) Y (dLd g3 Y Y) Y<|.g 18 Y Y Y (dT h8) Y (dIx Try.underlying59 z58 Y Y h6 h7) Y<|.g 18 Y Y Y (dT h8) Y (dFA fa58_1 Y) Y<|.g 18 Y Y Y (dT h8) Y (dLd g56 Y Y) Y<|.g 18 Y Y Y (dT h8) Y (m4 Try.underlying56 Y) Y<|.g 18 Y Y Y (dT h8) Y (dLe Y Y) Y<|.r (Q0 Y (dT h8) Y) Y<|.r (dAs Y) Y .n) Y<|j0<|P0 [] Try.func30 Try.results30 (rT Y) ⟨Y,Y⟩
     ·refine W5 34 mixed Y (by kernel_rfl) (by kernel_rfl) (by kernel_rfl) (.r (dFA fa55_1 Y) Y<|.r (dLd g3 Y Y) Y<|.r (dGe Y Y) Y<|.m Y Y<|.g 3 Y Y Y (dT h6) Y (dFA fa55_1 Y) Y<|.g 3 Y Y Y (dT h6) Y (dLd g3 Y Y) Y<|.g 3 Y Y Y (dT h6) Y (dMv Y) Y<|.g 3 Y Y Y (dT h6) Y (dNc ptF Y) Y<|.g 3 Y Y Y (dT h6) Y (dFA fa61_1 Y) Y<|.g 3 Y Y Y (dT h6) Y (dLd g59 Y Y) Y<|.g 3 Y Y Y (dT h6) Y (m4 Try.underlying59 Y) Y<|.g 3 Y Y Y (dT h6) Y (dLt Y Y) Y<|.r (Q0 Y (dT h6) Y) Y<|.m Y Y<|.g 13 Y Y Y (dT h7) Y (dFA fa55_2 Y) Y<|.g 13 Y Y Y (dT h7) Y (dLd g3 Y Y) Y<|.g 13 Y Y Y (dT h7) Y (dGe Y Y) Y<|.r (Q0 Y (dT h7) Y) Y<|.m Y Y<|.w 18 Y Y Y (dF h8) Y Y<|.w 18 Y Y Y (dF h8) Y Y<|.w 18 Y Y Y (dF h8) Y Y<|.w 18 Y Y Y (dF h8) Y Y<|.w 18 Y Y Y (dF h8) Y Y<|.w 18 Y Y Y (dF h8) Y Y<|.w 18 Y Y Y (dF h8) Y Y<|.w 18 Y Y Y (dF h8) Y Y<|.w 18 Y Y Y (dF h8) Y Y<|.w 18 Y Y Y (dF h8) Y Y<|.w 18 Y Y Y (dF h8) Y Y<|.w 18 Y Y Y (dF h8) Y Y<|.w 18 Y Y Y (dF h8) Y Y<|.r (f0 Y (dF h8) Y) Y<|.r (dAs Y) Y .n) Y<|j0<|P0 [] Try.func30 Try.results30 (rT Y) ⟨Y,Y⟩
    ·refine W5 34 mixed Y (by kernel_rfl) (by kernel_rfl) (by kernel_rfl) (.r (dFA fa55_1 Y) Y<|.r (dLd g3 Y Y) Y<|.r (dGe Y Y) Y<|.m Y Y<|.g 3 Y Y Y (dT h6) Y (dFA fa55_1 Y) Y<|.g 3 Y Y Y (dT h6) Y (dLd g3 Y Y) Y<|.g 3 Y Y Y (dT h6) Y (dMv Y) Y<|.g 3 Y Y Y (dT h6) Y (dNc ptF Y) Y<|.g 3 Y Y Y (dT h6) Y (dFA fa61_1 Y) Y<|.g 3 Y Y Y (dT h6) Y (dLd g59 Y Y) Y<|.g 3 Y Y Y (dT h6) Y (m4 Try.underlying59 Y) Y<|.g 3 Y Y Y (dT h6) Y (dLt Y Y) Y<|.r (Q0 Y (dT h6) Y) Y<|.m Y Y<|.w 13 Y Y Y (dF h7) Y Y<|.w 13 Y Y Y (dF h7) Y Y<|.w 13 Y Y Y (dF h7) Y Y<|.r (f0 Y (dF h7) Y) Y<|.m Y Y<|.w 18 Y Y Y Y Y Y<|.w 18 Y Y Y Y Y Y<|.w 18 Y Y Y Y Y Y<|.w 18 Y Y Y Y Y Y<|.w 18 Y Y Y Y Y Y<|.w 18 Y Y Y Y Y Y<|.w 18 Y Y Y Y Y Y<|.w 18 Y Y Y Y Y Y<|.w 18 Y Y Y Y Y Y<|.w 18 Y Y Y Y Y Y<|.w 18 Y Y Y Y Y Y<|.w 18 Y Y Y Y Y Y<|.w 18 Y Y Y Y Y Y<|.r (f0 Y Y Y) Y<|.r (dAs Y) Y .n) Y<|j0<|P0 [] Try.func30 Try.results30 (rT Y) ⟨Y,Y⟩
   ·refine W5 34 mixed Y (by kernel_rfl) (by kernel_rfl) (by kernel_rfl) (.r (dFA fa55_1 Y) Y<|.r (dLd g3 Y Y) Y<|.r (dGe Y Y) Y<|.m Y Y<|.w 3 Y Y Y (dF h6) Y Y<|.w 3 Y Y Y (dF h6) Y Y<|.w 3 Y Y Y (dF h6) Y Y<|.w 3 Y Y Y (dF h6) Y Y<|.w 3 Y Y Y (dF h6) Y Y<|.w 3 Y Y Y (dF h6) Y Y<|.w 3 Y Y Y (dF h6) Y Y<|.w 3 Y Y Y (dF h6) Y Y<|.r (f0 Y (dF h6) Y) Y<|.m Y Y<|.w 13 Y Y Y Y Y Y<|.w 13 Y Y Y Y Y Y<|.w 13 Y Y Y Y Y Y<|.r (f0 Y Y Y) Y<|.m Y Y<|.w 18 Y Y Y Y Y Y<|.w 18 Y Y Y Y Y Y<|.w 18 Y Y Y Y Y Y<|.w 18 Y Y Y Y Y Y<|.w 18 Y Y Y Y Y Y<|.w 18 Y Y Y Y Y Y<|.w 18 Y Y Y Y Y Y<|.w 18 Y Y Y Y Y Y<|.w 18 Y Y Y Y Y Y<|.w 18 Y Y Y Y Y Y<|.w 18 Y Y Y Y Y Y<|.w 18 Y Y Y Y Y Y<|.w 18 Y Y Y Y Y Y<|.r (f0 Y Y Y) Y<|.r (dAs Y) Y .n) Y<|j0<|P0 [] Try.func30 Try.results30 (rT Y) ⟨Y,Y⟩
def W9 (K:Nat) (p1:Place) (t2:Grammar):Option Bool:=(seqs_Is K t2 p1).bind fun r3=>some (!r3)
theorem yb (K:Nat) (p1:Place) (t2:Grammar):Pure Try.prog 29 [.agg (cPlace.e p1),.fptr (cGrammar.e t2)] (W9 K p1 t2) (fun r=>Ab r):=by
 refine spec_of' Try.func29 rfl Try.ntmps29 (le_ rfl) ?_
 refine sSR Y<|sQ (Q6 (az:=cPlace.e p1) Y cAgg) Y<|sA Y Y<|sES Y<|sQ (J6 g55 z55 Y (le_ Y)) Y<|y4 fun r3 e4=>sQ (J4 ent30 (seqs_Is_ok K _ _) e4 (.s Y<|.s Y .nil)) Y<|sQ (c8 Y) Y<|sA Y Y<|j0<|P0 [] Try.func29 Try.results29 (rT Y) ⟨Y,Y⟩
def slices_Clone_api_Place_api_Place (K:Nat) (s1:(List Place)):Option (List Place):=if (([]:List Place).length+s1.length)*24≤140737488355328 then some (([]:List Place)++s1) else none
theorem slices_Clone_api_Place_api_Place_ok (K:Nat) (s1:(List Place)):Fresh1 Try.prog 52 [.fsl cPlace s1] (slices_Clone_api_Place_api_Place K s1) (fun r v=>.sv v) (fun r v=>[.own 55 cPlace v r]):=by
 refine fresh_of Try.func52 rfl Try.ntmps52 (le_ rfl) ?_
 refine sSR Y<|sA Y Y<|j0<|J0<|sSR Y<|sM Y Y<|Gf Try.underlying26 Y Y fun u2 hu3=>j0<|?_
 cases u2
 ·refine f8 Y Y<|V0<|sSR Y<|sQ (Vc (c:=cPlace) Try.underlying26 z55 z7) Y<|sM Y Y<|md 5 55 cPlace Y fun v5=>M5 fun h6=>sAp (j:=0) Try.underlying26 z7 Y Y Y Y h6 Y Y fun v7=>sA Y Y<|j0<|P0 [] Try.func52 Try.results52 (rT Y) ⟨_,Y,Y⟩
 ·obtain rfl:=hu3 rfl
  refine sTo (x':=some ([]:List Place)) ?_ ?_
  ·simp [slices_Clone_api_Place_api_Place]
  refine y5 Y Y<|sSR Y<|sA Y Y<|j0<|cc 2 55 cPlace Y fun v4=>P0 [] Try.func52 Try.results52 (rT Y) ⟨_,Y,Y⟩
def w8 (K:Nat) (g1:Grammar) (p2:Place):Option (Symbol×Bool):=if 0≤p2.Rule then if p2.Rule<(g1.Rules.length:Int) then if 0≤p2.Conj then if p2.Conj<(((rd g1.Rules p2.Rule).Conj).length:Int) then if p2.Pos=(((rd ((rd g1.Rules p2.Rule).Conj) p2.Conj).Seq).length:Int) then some ((⟨(0:Int),(0:Int),(0:Int)⟩:Symbol),false) else if 0≤p2.Pos then if p2.Pos<(((rd ((rd g1.Rules p2.Rule).Conj) p2.Conj).Seq).length:Int) then some ((⟨(rd ((rd ((rd g1.Rules p2.Rule).Conj) p2.Conj).Seq) p2.Pos).Name,(rd ((rd ((rd g1.Rules p2.Rule).Conj) p2.Conj).Seq) p2.Pos).Lo,(rd ((rd ((rd g1.Rules p2.Rule).Conj) p2.Conj).Seq) p2.Pos).Hi⟩:Symbol),true) else none else none else none else none else none else none
theorem ca (K:Nat) (g1:Grammar) (p2:Place):Pure Try.prog 53 [.fptr (cGrammar.e g1),.agg (cPlace.e p2)] (w8 K g1 p2) (fun r=>.tup [.agg (cSymbol.e r.1),Ab r.2]):=by
 refine spec_of' Try.func53 rfl Try.ntmps53 (le_ rfl) ?_
 refine sSR Y<|sQ (Q6 (az:=cPlace.e p2) Y cAgg) Y<|m6 (az:=[Ai .i64 (0:Int),Ai .i64 (0:Int),Ai .i64 (0:Int)]) al51 (fun _ _=>.cons Y (.cons Y (.cons Y .nil))) Y fun b3=>sA Y Y<|j0<|J0<|sIf fun h4=>sIf fun h5=>sIf fun h6=>sIf fun h7=>W5 15 mixed Y (by kernel_rfl) (by kernel_rfl) (by kernel_rfl) (.m Y Y<|.r (dNc ptF Y) Y<|.r (dFA fa25_2 Y) Y<|.r (dLd g23 Y Y) Y<|.r (dFA fa55_0 Y) Y<|.r (dLd g3 Y Y) Y<|.r (dIx Try.underlying23 z61 Y Y h4 h5) Y<|.r (dFA fa61_1 Y) Y<|.r (dLd g59 Y Y) Y<|.r (dFA fa55_1 Y) Y<|.r (dLd g3 Y Y) Y<|.r (dIx Try.underlying59 z58 Y Y h6 h7) Y<|.r (dFA fa58_1 Y) Y<|.r (dLd g56 Y Y) Y<|.r (dAs Y) Y .n) Y<|j0<|J0<|sSR Y<|sQ (dFA fa55_2 Y) Y<|sQ (dLd g3 Y Y) Y<|sM Y Y<|sQ (m4 Try.underlying56 Y) Y<|sQ (dEq Y Y) Y<|j0<|P2 Y (fun h8=>?_) (fun h8=>?_)
 ·refine sSR Y<|sQ (J5 (az:=[Ai .i64 (0:Int),Ai .i64 (0:Int),Ai .i64 (0:Int)]) Try.underlying51 zv51 pl51 (fun _ _=>.cons Y (.cons Y (.cons Y .nil))) (.nil)) Y<|Q7 (j:=0) z51 Y Y Y cAgg ⟨(oLit Y),(oLit Y),(oLit Y),trivial⟩ Y (le_ Y)<|sA Y Y<|j0<|M7 [0] Try.func53 Try.results53 (rC (j:=0) g51 z51 Y Y Y) (rT Y) ⟨Y,Y⟩
 ·refine V0<|sSR Y<|sM Y Y<|sQ (dFA fa55_2 Y) Y<|sQ (dLd g3 Y Y) Y<|M5 fun h9=>M5 fun h10=>sQ (dIx Try.underlying56 z51 Y Y h9 h10) Y<|sQ (J6 g51 z51 Y (le_ Y)) Y<|Q7 (j:=0) z51 Y Y Y cAgg ((cSymbol).one _) Y (le_ Y)<|sA Y Y<|j0<|M7 [0] Try.func53 Try.results53 (rC (j:=0) g51 z51 Y Y Y) (rT Y) ⟨Y,Y⟩
def P3.l1 (K:Nat) (g1:Grammar) (t6:Int):Nat→((List Place)×Int)→Option ((List Place)×Int)
 | 0,_=>none
 | m+1,(xs11,t12)=>if t12<(((rd g1.Rules t6).Conj).length:Int) then if (xs11.length+([(⟨t6,t12,(0:Int)⟩:Place)]:List Place).length)*24≤140737488355328 then P3.l1 K g1 t6 m (xs11++([(⟨t6,t12,(0:Int)⟩:Place)]:List Place),IntKind.wrap .i64 (t12+1)) else none else some (xs11,t12)
def P3.l0 (K:Nat) (g1:Grammar) (name2:Int):Nat→((List Place)×Int)→Option ((List Place)×Int)
 | 0,_=>none
 | m+1,(xs5,t6)=>if t6<(g1.Rules.length:Int) then if 0≤t6 then if ((rd g1.Rules t6).Head)≠name2 then P3.l0 K g1 name2 m (xs5,IntKind.wrap .i64 (t6+1)) else (P3.l1 K g1 t6 K (xs5,0)).bind fun (xs11,t12)=>P3.l0 K g1 name2 m (xs11,IntKind.wrap .i64 (t6+1)) else none else some (xs5,t6)
def P3 (K:Nat) (g1:Grammar) (name2:Int):Option (List Place):=(P3.l0 K g1 name2 K (([]:List Place),0)).bind fun (xs5,t6)=>some xs5
theorem fa (K:Nat) (g1:Grammar) (name2:Int):Fresh1 Try.prog 35 [.fptr (cGrammar.e g1),Ai .i64 name2] (P3 K g1 name2) (fun r v=>.sv v) (fun r v=>[.own 55 cPlace v r]):=by
 refine fresh_of Try.func35 rfl Try.ntmps35 (le_ rfl) ?_
 refine sSR Y<|sA Y Y<|sES Y<|sA Y Y<|j0<|J0<|sSR Y<|sM Y Y<|sQ (dNc ptF Y) Y<|sQ (dFA fa25_2 Y) Y<|sQ (dLd g23 Y Y) Y<|sQ (m4 Try.underlying23 Y) Y<|sM Y Y<|j0<|cc 5 55 cPlace Y fun v3=>sLo (P3.l0 K g1 name2) (fun ((xs5,t6):((List Place)×Int)) (v4:Value)=>([(0,.fptr ((cGrammar.e g1))),(1,Ai .i64 name2),(5,.sv v4),(12,Ai .i64 (g1.Rules.length:Int)),(13,Ai .i64 t6)]:Fr)) (fun ((xs5,t6):((List Place)×Int)) (v4:Value)=>([.own 55 cPlace v4 xs5]:List Res)) v3 (fun _=>Y) [] ⟨Y,Y,Y,Y,Y,trivial⟩ Y ?_ ?_
 ·rintro ⟨xs5,t6⟩ v4
  refine sSR Y<|sM Y Y<|sA Y Y<|j0<|P0 [] Try.func35 Try.results35 (rT Y) ⟨_,Y,Y⟩
 ·rintro m ⟨xs5,t6⟩ v4 again0 out0
  refine sSR Y<|sQ (dLt Y Y) Y<|j0<|J0<|P2 Y (fun h7=>?_) (fun h7=>?_)
  ·refine V0<|J0<|M6<|sSR Y<|sM Y Y<|sA Y Y<|j0<|J0<|sSR Y<|sM Y Y<|sQ (dNc ptF Y) Y<|sQ (dFA fa25_2 Y) Y<|sQ (dLd g23 Y Y) Y<|sM Y Y<|M5 fun h8=>sQ (dIx Try.underlying23 z61 Y Y h8 h7) Y<|sQ (dFA fa61_0 Y) Y<|sQ (dLd g3 Y Y) Y<|sM Y Y<|sQ (dNe Y Y) Y<|j0<|P2 Y (fun h9=>?_) (fun h9=>?_)
   ·refine f5 Y<|L4 Y<|sQ (k6 Y Y) Y<|sM Y Y<|j0<|M2 (again0 (xs5,IntKind.wrap .i64 (t6+1)) v4) [0] ⟨Y,Y,Y,Y,Y,trivial⟩ Y
   ·refine V0<|sSR Y<|sM Y Y<|sQ (dNc ptF Y) Y<|sQ (dFA fa25_2 Y) Y<|sQ (dLd g23 Y Y) Y<|sM Y Y<|sQ (dIx Try.underlying23 z61 Y Y h8 h7) Y<|sQ (dFA fa61_1 Y) Y<|sQ (dLd g59 Y Y) Y<|sQ (m4 Try.underlying59 Y) Y<|sM Y Y<|j0<|sLo (P3.l1 K g1 t6) (fun ((xs11,t12):((List Place)×Int)) (v10:Value)=>([(0,.fptr ((cGrammar.e g1))),(1,Ai .i64 name2),(5,.sv v10),(6,Ai .i64 t6),(12,Ai .i64 (g1.Rules.length:Int)),(13,Ai .i64 t6),(34,Ai .i64 (((rd g1.Rules t6).Conj).length:Int)),(35,Ai .i64 t12)]:Fr)) (fun ((xs11,t12):((List Place)×Int)) (v10:Value)=>([.own 55 cPlace v10 xs11]:List Res)) v4 (fun _=>Y) [] ⟨Y,Y,Y,Y,Y,Y,Y,Y,trivial⟩ Y ?_ ?_
    ·rintro ⟨xs11,t12⟩ v10
     refine f2<|L4 Y<|sQ (k6 Y Y) Y<|sM Y Y<|j0<|M2 (again0 (xs11,IntKind.wrap .i64 (t6+1)) v10) [0] ⟨Y,Y,Y,Y,Y,trivial⟩ Y
    ·rintro m ⟨xs11,t12⟩ v10 again1 out1
     refine sSR Y<|sQ (dLt Y Y) Y<|j0<|J0<|P2 Y (fun h13=>?_) (fun h13=>?_)
     ·refine V0<|J0<|M6<|sSR Y<|sM Y Y<|sA Y Y<|j0<|L4 Y<|sM Y Y<|sM Y Y<|sM Y Y<|sQ (J5 (az:=[Ai .i64 (0:Int),Ai .i64 (0:Int),Ai .i64 (0:Int)]) Try.underlying55 zv55 pl55 (fun _ _=>.cons Y (.cons Y (.cons Y .nil))) (.c Y Y (cOne (oLit Y)) Y Y (.c Y Y (cOne (oLit Y)) Y Y .nil))) Y<|sQ (dBS (c:=cPlace) (xs:=([(⟨t6,t12,(0:Int)⟩:Place)]:List Place)) Try.underlying26 z55 z7 (.c Y cAgg .nil) Y) Y<|M5 fun h14=>sAp (j:=0) Try.underlying26 z7 Y Y Y Y h14 Y Y fun v15=>sA Y Y<|j0<|f2<|L4 Y<|sQ (k6 Y Y) Y<|sM Y Y<|j0<|M2 (again1 (xs11++([(⟨t6,t12,(0:Int)⟩:Place)]:List Place),IntKind.wrap .i64 (t12+1)) v15) [0] ⟨Y,Y,Y,Y,Y,Y,Y,Y,trivial⟩ Y
     ·refine f5 Y<|M2 (out1 (xs11,t12) v10) [0] ⟨Y,Y,Y,Y,Y,Y,Y,Y,trivial⟩ Y
  ·refine f5 Y<|M2 (out0 (xs5,t6) v4) [0] ⟨Y,Y,Y,Y,Y,trivial⟩ Y
def cmp_isNaN_int (K:Nat) (x1:Int):Option Bool:=some (decide (x1≠x1))
theorem cmp_isNaN_int_ok (K:Nat) (x1:Int):Pure Try.prog 79 [Ai .i64 x1] (cmp_isNaN_int K x1) (fun r=>Ab r):=by
 refine spec_of' Try.func79 rfl Try.ntmps79 (le_ rfl) ?_
 refine sSR Y<|sA Y Y<|sES Y<|sM Y Y<|sM Y Y<|sQ (dNe Y Y) Y<|sA Y Y<|j0<|P0 [] Try.func79 Try.results79 (rT Y) ⟨Y,Y⟩
def cmp_Compare_int (K:Nat) (x1:Int) (y2:Int):Option Int:=(cmp_isNaN_int K x1).bind fun r3=>(cmp_isNaN_int K y2).bind fun r5=>if r3=true then if r5=true then some 0 else some (-1) else if r5=true then some 1 else if x1<y2 then some (-1) else if y2<x1 then some 1 else some 0
theorem cmp_Compare_int_ok (K:Nat) (x1:Int) (y2:Int):Pure Try.prog 72 [Ai .i64 x1,Ai .i64 y2] (cmp_Compare_int K x1 y2) (fun r=>Ai .i64 r):=by
 refine spec_of' Try.func72 rfl Try.ntmps72 (le_ rfl) ?_
 refine sSR Y<|sA Y Y<|sES Y<|sM Y Y<|y4 fun r3 e4=>sQ (J4 ent79 (cmp_isNaN_int_ok K _) e4 (.s Y .nil)) Y<|sA Y Y<|sES Y<|sM Y Y<|y4 fun r5 e6=>sQ (J4 ent79 (cmp_isNaN_int_ok K _) e6 (.s Y .nil)) Y<|sA Y Y<|j0<|J0<|sSR Y<|sM Y Y<|j0<|c6 Y (fun h7=>?_) (fun h7=>?_)
 ·refine J0<|sSR Y<|sM Y Y<|j0<|c6 Y (fun h8=>?_) (fun h8=>?_)
  ·refine sSR Y<|sA Y Y<|j0<|P0 [] Try.func72 Try.results72 (rT Y) ⟨Y,Y⟩
  ·refine V0<|sSR Y<|sA Y Y<|j0<|P0 [] Try.func72 Try.results72 (rT Y) ⟨Y,Y⟩
 ·refine V0<|J0<|sSR Y<|sM Y Y<|j0<|c6 Y (fun h9=>?_) (fun h9=>?_)
  ·refine sSR Y<|sA Y Y<|j0<|P0 [] Try.func72 Try.results72 (rT Y) ⟨Y,Y⟩
  ·refine V0<|J0<|sSR Y<|sM Y Y<|sM Y Y<|sQ (dLt Y Y) Y<|j0<|P2 Y (fun h10=>?_) (fun h10=>?_)
   ·refine sSR Y<|sA Y Y<|j0<|P0 [] Try.func72 Try.results72 (rT Y) ⟨Y,Y⟩
   ·refine V0<|J0<|sSR Y<|sM Y Y<|sM Y Y<|sQ (dGt Y Y) Y<|j0<|P2 Y (fun h11=>?_) (fun h11=>?_)
    ·refine sSR Y<|sA Y Y<|j0<|P0 [] Try.func72 Try.results72 (rT Y) ⟨Y,Y⟩
    ·refine V0<|sSR Y<|sA Y Y<|j0<|P0 [] Try.func72 Try.results72 (rT Y) ⟨Y,Y⟩
def cmp_Or_int.l0 (K:Nat) (vals1:(List Int)):Nat→Int→Option (Int ⊕ Int)
 | 0,_=>none
 | m+1,t2=>if t2<(vals1.length:Int) then if 0≤t2 then if (rd vals1 t2)≠0 then some (.inr (rd vals1 t2)) else cmp_Or_int.l0 K vals1 m (IntKind.wrap .i64 (t2+1)) else none else some (.inl t2)
def cmp_Or_int (K:Nat) (vals1:(List Int)):Option Int:=brk (cmp_Or_int.l0 K vals1 K 0) fun t2=>some 0
theorem cmp_Or_int_ok (K:Nat) (vals1:(List Int)):Pure Try.prog 71 [.fsl (cI .i64) vals1] (cmp_Or_int K vals1) (fun r=>Ai .i64 r):=by
 refine spec_of' Try.func71 rfl Try.ntmps71 (le_ rfl) ?_
 refine sSR Y<|sA Y Y<|sES Y<|sA Y Y<|j0<|J0<|sSR Y<|sM Y Y<|sQ (m4 Try.underlying132 Y) Y<|sM Y Y<|j0<|J8 (cmp_Or_int.l0 K vals1) (fun (t2:Int) (_:Unit)=>([(3,Ai .i64 0),(6,.fsl (cI .i64) vals1),(7,Ai .i64 (vals1.length:Int)),(8,Ai .i64 t2)]:Fr)) (fun (t2:Int) (_:Unit)=>([]:List Res)) () (fun _=>Y) [] ⟨Y,Y,Y,Y,trivial⟩ Y ?_ ?_
 ·rintro t2 _
  refine sSR Y<|sM Y Y<|sA Y Y<|j0<|P0 [] Try.func71 Try.results71 (rT Y) ⟨Y,Y⟩
 ·rintro m t2 _ again0 out0
  refine sSR Y<|sQ (dLt Y Y) Y<|j0<|J0<|P2 Y (fun h3=>?_) (fun h3=>?_)
  ·refine V0<|J0<|M6<|sSR Y<|M5 fun h4=>sQ (dIx Try.underlying132 z3 Y Y h4 h3) Y<|sQ (dLd g3 Y Y) Y<|sA Y Y<|sES Y<|sM Y Y<|sM Y Y<|sQ (dNe Y Y) Y<|j0<|P2 Y (fun h5=>?_) (fun h5=>?_)
   ·refine sSR Y<|sM Y Y<|sA Y Y<|j0<|m7<|P0 [] Try.func71 Try.results71 (rT Y) ⟨Y,Y⟩
   ·refine V0<|f2<|L4 Y<|sQ (k6 Y Y) Y<|sM Y Y<|j0<|M2 (again0 (IntKind.wrap .i64 (t2+1)) ()) [] ⟨Y,Y,Y,Y,trivial⟩ Y
  ·refine f5 Y<|M2 (out0 t2 ()) [] ⟨Y,Y,Y,Y,trivial⟩ Y
def vb (K:Nat) (a1:Place) (b2:Place):Option Int:=(cmp_Compare_int K a1.Rule b2.Rule).bind fun r3=>(cmp_Compare_int K a1.Conj b2.Conj).bind fun r5=>(cmp_Compare_int K a1.Pos b2.Pos).bind fun r7=>(cmp_Or_int K ([r3,r5,r7]:List Int)).bind fun r9=>some r9
theorem tc (K:Nat) (a1:Place) (b2:Place):Pure Try.prog 56 [.agg (cPlace.e a1),.agg (cPlace.e b2)] (vb K a1 b2) (fun r=>Ai .i64 r):=by
 refine spec_of' Try.func56 rfl Try.ntmps56 (le_ rfl) ?_
 refine sSR Y<|sQ (Q6 (az:=cPlace.e a1) Y cAgg) Y<|sQ (Q6 (az:=cPlace.e b2) Y cAgg) Y<|sA Y Y<|j0<|J0<|V9 fun r3 e4=>V9 fun r5 e6=>V9 fun r7 e8=>V9 fun r9 e10=>W5 18 mixed Y (by kernel_rfl) (by kernel_rfl) (by kernel_rfl) (.r (dFA fa55_0 Y) Y<|.r (dLd g3 Y Y) Y<|.r (dFA fa55_0 Y) Y<|.r (dLd g3 Y Y) Y<|.r (J4 ent72 (cmp_Compare_int_ok K _ _) e4 (.s Y<|.s Y .nil)) Y<|.r (dFA fa55_1 Y) Y<|.r (dLd g3 Y Y) Y<|.r (dFA fa55_1 Y) Y<|.r (dLd g3 Y Y) Y<|.r (J4 ent72 (cmp_Compare_int_ok K _ _) e6 (.s Y<|.s Y .nil)) Y<|.r (dFA fa55_2 Y) Y<|.r (dLd g3 Y Y) Y<|.r (dFA fa55_2 Y) Y<|.r (dLd g3 Y Y) Y<|.r (J4 ent72 (cmp_Compare_int_ok K _ _) e8 (.s Y<|.s Y .nil)) Y<|.r (dBS (c:=(cI .i64)) (xs:=([r3,r5,r7]:List Int)) Try.underlying132 z3 cg (.c Y (cOne (oLit Y)) (.c Y (cOne (oLit Y)) (.c Y (cOne (oLit Y)) .nil))) Y) Y<|.r (J4 ent71 (cmp_Or_int_ok K _) e10 (.s Y .nil)) Y<|.r (dAs Y) Y .n) Y<|j0<|P0 [] Try.func56 Try.results56 (rT Y) ⟨Y,Y⟩
open Go.Shelf
def sort69_ren:Go.Shelf.Ren:=⟨fun | 6=>69 | 15=>78 | 14=>77 | 28=>88 | 29=>89 | 20=>80 | 21=>81 | 22=>82 | 23=>83 | 24=>84 | 25=>85 | 26=>86 | 27=>87 | 46=>90 | 47=>91 | 48=>92 | 49=>93 | 50=>94 | 57=>95 | n=>n,fun | 22=>26 | 24=>55 | 25=>108 | 3=>3 | 39=>128 | 0=>0 | 53=>142 | 55=>144 | 4=>4 | 46=>136 | 45=>135 | 50=>90 | 5=>5 | 9=>9 | 66=>145 | 70=>149 | 76=>151 | 77=>152 | n=>n,fun | n=>n⟩
theorem sort69:SlLaysF0.n6 Try.prog sort69_ren:={
 mixed:=by kernel_rfl
 f6:=⟨Try.f69.name,by decide,Try.func69.trans (congrArg some (by kernel_rfl))⟩
 f14:=⟨Try.f77.name,by decide,Try.func77.trans (congrArg some (by kernel_rfl))⟩
 f15:=Try.func78.trans (congrArg some (by kernel_rfl))
 f20:=⟨Try.f80.name,by decide,Try.func80.trans (congrArg some (by kernel_rfl))⟩
 f21:=⟨Try.f81.name,by decide,Try.func81.trans (congrArg some (by kernel_rfl))⟩
 f22:=⟨Try.f82.name,by decide,Try.func82.trans (congrArg some (by kernel_rfl))⟩
 f23:=⟨Try.f83.name,by decide,Try.func83.trans (congrArg some (by kernel_rfl))⟩
 f24:=⟨Try.f84.name,by decide,Try.func84.trans (congrArg some (by kernel_rfl))⟩
 f25:=⟨Try.f85.name,by decide,Try.func85.trans (congrArg some (by kernel_rfl))⟩
 f26:=⟨Try.f86.name,by decide,Try.func86.trans (congrArg some (by kernel_rfl))⟩
 f27:=⟨Try.f87.name,by decide,Try.func87.trans (congrArg some (by kernel_rfl))⟩
 f28:=Try.func88.trans (congrArg some (by kernel_rfl))
 f29:=Try.func89.trans (congrArg some (by kernel_rfl))
 f46:=⟨Try.f90.name,by decide,Try.func90.trans (congrArg some (by kernel_rfl))⟩
 f47:=Try.func91.trans (congrArg some (by kernel_rfl))
 f48:=Try.func92.trans (congrArg some (by kernel_rfl))
 f49:=⟨Try.f93.name,by decide,Try.func93.trans (congrArg some (by kernel_rfl))⟩
 f50:=⟨Try.f94.name,by decide,Try.func94.trans (congrArg some (by kernel_rfl))⟩
 f57:=⟨Try.f95.name,by decide,Try.func95.trans (congrArg some (by kernel_rfl))⟩
 t0:=Try.underlying0
 a0:=Try.isAgg0
 z0:=Try.sizeOf0
 v0:=Try.zeroValue0
 t3:=Try.underlying3
 a3:=Try.isAgg3
 z3:=Try.sizeOf3
 v3:=Try.zeroValue3
 t4:=Try.underlying4
 a4:=Try.isAgg4
 z4:=Try.sizeOf4
 v4:=Try.zeroValue4
 t5:=Try.underlying5
 a5:=Try.isAgg5
 z5:=Try.sizeOf5
 v5:=Try.zeroValue5
 t9:=Try.underlying9
 a9:=Try.isAgg9
 z9:=Try.sizeOf9
 v9:=Try.zeroValue9
 t22:=Try.underlying26
 a22:=Try.isAgg26
 z22:=Try.sizeOf26
 v22:=Try.zeroValue26
 t25:=Try.underlying108
 a25:=Try.isAgg108
 z25:=Try.sizeOf108
 v25:=Try.zeroValue108
 t39:=Try.underlying128
 a39:=Try.isAgg128
 z39:=Try.sizeOf128
 v39:=Try.zeroValue128
 t45:=Try.underlying135
 a45:=Try.isAgg135
 z45:=Try.sizeOf135
 v45:=Try.zeroValue135
 t46:=Try.underlying136
 a46:=Try.isAgg136
 z46:=Try.sizeOf136
 v46:=Try.zeroValue136
 t50:=Try.underlying90
 a50:=Try.isAgg90
 z50:=Try.sizeOf90
 v50:=Try.zeroValue90
 t53:=Try.underlying142
 a53:=Try.isAgg142
 z53:=Try.sizeOf142
 v53:=Try.zeroValue142
 t55:=Try.underlying144
 a55:=Try.isAgg144
 z55:=Try.sizeOf144
 v55:=Try.zeroValue144
 t66:=Try.underlying145
 a66:=Try.isAgg145
 z66:=Try.sizeOf145
 v66:=Try.zeroValue145
 t70:=Try.underlying149
 a70:=Try.isAgg149
 z70:=Try.sizeOf149
 v70:=Try.zeroValue149
 t76:=Try.underlying151
 a76:=Try.isAgg151
 z76:=Try.sizeOf151
 v76:=Try.zeroValue151
 t77:=Try.underlying152
 a77:=Try.isAgg152
 z77:=Try.sizeOf152
 v77:=Try.zeroValue152 }
end Go.Proofs.Ytgmnohjaciemmaa

namespace Go.Proofs.Ytgmnohjaciemmaa
set_option linter.unusedSimpArgs false
open S Go.Sort
set_option linter.unusedVariables false
def rowP (a b:Place):Int:=if a.Rule<b.Rule then -1 else if b.Rule<a.Rule then 1 else if a.Conj<b.Conj then -1 else if b.Conj<a.Conj then 1 else if a.Pos<b.Pos then -1 else if b.Pos<a.Pos then 1 else 0
theorem compare_eq (K:Nat) (x y:Int):cmp_Compare_int K x y=some (if x<y then -1 else if y<x then 1 else 0):=by
 unfold cmp_Compare_int cmp_isNaN_int
 simp only [Option.bind_some]
 by_cases h1:x<y
 ·simp [h1]
 ·by_cases h2:y<x <;> simp [h1,h2]
theorem or_eq (K:Nat) (hK:10≤K) (a b c:Int):cmp_Or_int K [a,b,c]=some (if a≠0 then a else if b≠0 then b else c):=by
 obtain ⟨m,rfl⟩:∃ m,K=m+4:=⟨K-4,by omega⟩
 have r0:rd [a,b,c] 0=a:=rfl
 have r1:rd [a,b,c] 1=b:=rfl
 have r2:rd [a,b,c] 2=c:=rfl
 have l3:(([a,b,c]:List Int).length:Int)=3:=rfl
 have z0:∀ q n,cmp_Or_int.l0 q [a,b,c] (n+1) 0=if a≠0 then some (.inr a) else cmp_Or_int.l0 q [a,b,c] n 1:=fun q n=>by
  simp only [cmp_Or_int.l0]
  rw [l3,if_pos (show (0:Int)<3 by omega),if_pos (show (0:Int)≤0 by omega),r0,wr (a:=0+1) (by omega) (by omega)];rfl
 have z1:∀ q n,cmp_Or_int.l0 q [a,b,c] (n+1) 1=if b≠0 then some (.inr b) else cmp_Or_int.l0 q [a,b,c] n 2:=fun q n=>by
  simp only [cmp_Or_int.l0]
  rw [l3,if_pos (show (1:Int)<3 by omega),if_pos (show (0:Int)≤1 by omega),r1,wr (a:=1+1) (by omega) (by omega)];rfl
 have z2:∀ q n,cmp_Or_int.l0 q [a,b,c] (n+1) 2=if c≠0 then some (.inr c) else cmp_Or_int.l0 q [a,b,c] n 3:=fun q n=>by
  simp only [cmp_Or_int.l0]
  rw [l3,if_pos (show (2:Int)<3 by omega),if_pos (show (0:Int)≤2 by omega),r2,wr (a:=2+1) (by omega) (by omega)];rfl
 have z3:∀ q n,cmp_Or_int.l0 q [a,b,c] (n+1) 3=some (.inl 3):=fun q n=>by
  simp only [cmp_Or_int.l0]
  rw [l3,if_neg (show ¬ (3:Int)<3 by omega)]
 unfold cmp_Or_int
 rw [z0 (m+4) (m+3)]
 by_cases ha:a=0
 ·rw [if_neg (show ¬ a≠0 from fun h=>h ha),if_neg (show ¬ a≠0 from fun h=>h ha),z1 (m+4) (m+2)]
  by_cases hb:b=0
  ·rw [if_neg (show ¬ b≠0 from fun h=>h hb),if_neg (show ¬ b≠0 from fun h=>h hb),z2 (m+4) (m+1)]
   by_cases hc:c=0
   ·rw [if_neg (show ¬ c≠0 from fun h=>h hc),z3 (m+4) m,hc];rfl
   ·rw [if_pos hc];rfl
  ·rw [if_pos hb,if_pos hb];rfl
 ·rw [if_pos ha,if_pos ha];rfl
theorem rowP_eq (K:Nat) (hK:10≤K) (a b:Place):vb K a b=some (rowP a b):=by
 unfold vb rowP
 rw [compare_eq,Option.bind_some,compare_eq,Option.bind_some,compare_eq,Option.bind_some,or_eq K hK,Option.bind_some]
 cases a with | mk a1 a2 a3=>cases b with | mk b1 b2 b3 =>
 simp only
 by_cases h1:a1<b1
 ·simp [h1]
 by_cases h2:b1<a1
 ·simp [h1,h2]
 by_cases h3:a2<b2
 ·simp [h1,h2,h3]
 by_cases h4:b2<a2
 ·simp [h1,h2,h3,h4]
 simp [h1,h2,h3,h4]
theorem rowP_lt (a b:Place):ltOf rowP a b=true↔a.Rule<b.Rule∨(a.Rule=b.Rule∧(a.Conj<b.Conj∨(a.Conj=b.Conj∧a.Pos<b.Pos))):=by
 unfold ltOf rowP
 rw [decide_eq_true_iff]
 cases a with | mk a1 a2 a3=>cases b with | mk b1 b2 b3 =>
 simp only
 by_cases h1:a1<b1
 ·simp [h1]
 by_cases h2:b1<a1
 ·simp [h1,h2];omega
 have e1:a1=b1:=by omega
 by_cases h3:a2<b2
 ·simp [h1,h2,h3,e1]
 by_cases h4:b2<a2
 ·simp [h1,h2,h3,h4,e1];omega
 have e2:a2=b2:=by omega
 by_cases h5:a3<b3
 ·simp [h1,h2,h3,h4,h5,e1,e2]
 by_cases h6:b3<a3
 ·simp [h1,h2,h3,h4,h5,h6,e1,e2]
 simp [h1,h2,h3,h4,h5,h6,e1,e2]
theorem rowP_nlt (a b:Place):ltOf rowP a b=false↔¬ (a.Rule<b.Rule∨(a.Rule=b.Rule∧(a.Conj<b.Conj∨(a.Conj=b.Conj∧a.Pos<b.Pos)))):=by
 rw [← rowP_lt,Bool.not_eq_true]
theorem rowP_swo:SWO (ltOf rowP) where
 irrefl x:=by rw [rowP_nlt];omega
 trans x y z h1 h2:=by rw [rowP_lt] at *;omega
 ntrans x y z h1 h2:=by rw [rowP_nlt] at *;omega
theorem rowP_anti (x y:Place) (h1:ltOf rowP x y=false) (h2:ltOf rowP y x=false):x=y:=by
 rw [rowP_nlt] at *
 cases x with | mk a1 a2 a3=>cases y with | mk b1 b2 b3 =>
 simp only [Place.mk.injEq] at *
 omega
end Go.Proofs.Ytgmnohjaciemmaa

namespace Go.Proofs.Ytgmnohjaciemmaa
open S
set_option linter.unusedVariables false
set_option maxRecDepth 100000
theorem cLits {κ:Type} {c:Co κ} {lits:κ→List Value} (hl:∀ x,c.e x=(lits x).map AV.lit) (k:κ):CellsOf (.lit (.agg (lits k).toArray)) (c.e k):=fun Z w v hv=>by
 have hv':v = .agg (lits k).toArray:=hv
 subst hv'
 rw [hl]
 simpa [Value.cells] using allP_of_lits (Z:=Z) (w:=w) (lits k)
theorem kgM54:IsAgg Try.prog 100 false:=fun _=>by kernel_rfl
theorem kgS54:IsAgg Try.prog 26 false:=fun _=>by kernel_rfl
theorem kgE54:IsAgg Try.prog 55 true:=fun _=>by kernel_rfl
theorem kzS54:SizeIs Try.prog 26 1:=fun _=>by kernel_rfl
theorem kzE54:SizeIs Try.prog 55 3:=fun _=>by kernel_rfl
theorem kinfo54:Info Try.prog 55 (.agg #[.int .i64 0,.int .i64 0,.int .i64 0]) 3 24:=by unfold Info;kernel_rfl
theorem kal54:∀ w,(Instr.alloc 55 true (.tuple #[])).run Try.prog w = .ok (.pointer (some ⟨w.heap.size,0,none⟩)) (w.alloc (.cells ([.int .i64 0,.int .i64 0,.int .i64 0]:List Value).toArray 55)):=fun _=>by kernel_rfl
theorem kty54:KeysTy Try.prog cPlace kvPlace (fun x:Bool=>Value.bool x) 100 55 4 26 [.int .i64 0,.int .i64 0,.int .i64 0] [Ai .i64 0,Ai .i64 0,Ai .i64 0] (.agg #[.int .i64 0,.int .i64 0,.int .i64 0]) 24:={
 ht:=Try.underlying100,gM:=kgM54,hS:=Try.underlying26,gS:=kgS54,zS:=kzS54,gE:=kgE54,zE:=kzE54,info:=kinfo54,zz:=rfl,b0:=(by decide),mx:=rfl,al:=kal54,
 azp:=fun _ _=>.cons rfl (.cons rfl (.cons rfl .nil)),azl:=rfl,cell:=cLits (lits:=litsPlace) (fun _=>rfl) }
theorem kent70:Ent Try.prog 70:=fun _ _=>by kernel_rfl
theorem kent76:Ent Try.prog 76:=fun _ _=>by kernel_rfl
theorem kent68:Ent Try.prog 68:=fun _ _=>by kernel_rfl
theorem kent69:Ent Try.prog 69:=fun _ _=>by kernel_rfl
theorem kent56:Ent Try.prog 56:=fun _ _=>by kernel_rfl
theorem kit70 {Bs l b:Nat} {rec:Loop} {v:Value} {es:List (Place×Bool)} (hbd:es.length*24≤140737488355328) (A:ApRec 26 55 Bs rec):S.Spec Try.prog 70 [.lit (.func (.yield l) #[] #[]),.fptr [.lit (.map (some b))]] [.mp kvPlace (fun x:Bool=>Value.bool x) b es,.box Bs [.sv v],.own 55 cPlace v [],.obj l (.loop rec)]
  fun _ H=>∃ v' ss,ss.Perm (es.map (·.1))∧H=[.mp kvPlace (fun x:Bool=>Value.bool x) b es,.box Bs [.sv v'],.own 55 cPlace v' ss,.obj l (.loop rec)]:=keysIter kty54 A hbd Try.func70 rfl rfl rfl
theorem kap76 {b:Nat} {es:List (Place×Bool)} (hbd:es.length*24≤140737488355328):S.Spec Try.prog 76 [.lit (.slice none 0 0),.keys 70 b] [.mp kvPlace (fun x:Bool=>Value.bool x) b es] (KeysPost 55 cPlace kvPlace (fun x:Bool=>Value.bool x) b es):=appendSeq kty54 kent70 (fun A=>kit70 hbd A) Try.func76 rfl rfl rfl
theorem kco68 {b:Nat} {es:List (Place×Bool)} (hbd:es.length*24≤140737488355328):S.Spec Try.prog 68 [.keys 70 b] [.mp kvPlace (fun x:Bool=>Value.bool x) b es] (KeysPost 55 cPlace kvPlace (fun x:Bool=>Value.bool x) b es):=collectFn kent76 (kap76 hbd) Try.func68 rfl rfl rfl
theorem keys55 {b:Nat}:Pure Try.prog 55 [.lit (.map (some b))] (some ()) fun _=>.keys 70 b:=keysFn Try.func55 rfl rfl rfl
theorem kcmp56 (x y:Place):Pure Try.prog 56 [.agg (cPlace.e x),.agg (cPlace.e y)] (some (rowP x y)) fun r=>Ai .i64 r:=by
 have h:=tc 10 x y
 rw [rowP_eq 10 (Nat.le_refl _)] at h
 exact h
theorem kone55 (x:Place):∀ v ∈ litsPlace x,v.oneCell'=true:=by intro v hv;simp [litsPlace] at hv;rcases hv with rfl | rfl | rfl <;> rfl
theorem sorted54 {K b:Nat} {es:List (Place×Bool)} (_:10≤K) (hbd:es.length*24≤140737488355328):Hands Try.prog 54 [.keys 70 b,.lit (.func (.func 56) #[] #[])] [.mp kvPlace (fun x:Bool=>Value.bool x) b es] (some ()) (fun _ v=>.sv v) (fun _ v=>[.own 55 cPlace v (sortL rowP (es.map (·.1))),.mp kvPlace (fun x:Bool=>Value.bool x) b es]):=by
 intro r _ w F Z vs hvs hi
 refine (sortedFn (Sd:=SortedBy rowP) kent68 kent69 (kco68 hbd) (fun v ss hp=>sortFn sort69 (c:=cPlace) (lits:=litsPlace) (fun _=>rfl) kone55 kgE54 kzE54 rowP_swo kent56 kcmp56 (by have:=hp.length_eq;simp at this;omega)) Try.func54 rfl rfl rfl w F Z vs hvs hi).mono ?_
 rintro e w' ⟨v,he,F',Z',av,H',⟨v1,ys,rfl,hp,hs,rfl⟩,h1,h2⟩
 exact ⟨v,he,F',Z',_,_,⟨v1,rfl,by rw [sortL_is rowP_swo rowP_anti hp hs]⟩,h1,h2⟩
end Go.Proofs.Ytgmnohjaciemmaa

