import Derived.Test.YtcoineklodmbnaaW9
namespace Go.Proofs.Ytcoineklodmbnaa
open S
set_option linter.unusedVariables false
set_option maxRecDepth 100000
set_option maxHeartbeats 4000000
def G3.l1 (K:Nat) (a1:Grammar) (i23:Int):Nat→((List Conjunct)×Int)→Option ((List Conjunct)×Int)
 | 0,_=>none
 | m+1,(xs30,j31)=>if j31<(((rd a1.Rules i23).Conj).length:Int) then if 0≤j31 then if (([]:List Symbol).length+((rd ((rd a1.Rules i23).Conj) j31).Seq).length)*24≤140737488355328 then if (xs30.length+1)*32≤140737488355328 then G3.l1 K a1 i23 m (xs30++[(⟨(rd ((rd a1.Rules i23).Conj) j31).Neg,([]:List Symbol)++((rd ((rd a1.Rules i23).Conj) j31).Seq)⟩:Conjunct)],IntKind.wrap .i64 (j31+1)) else none else none else none else some (xs30,j31)
def G3.l0 (K:Nat) (a1:Grammar):Nat→((List Rule)×Int)→Option ((List Rule)×Int)
 | 0,_=>none
 | m+1,(xs22,i23)=>if i23<(a1.Rules.length:Int) then if 0≤i23 then (G3.l1 K a1 i23 K (([]:List Conjunct),0)).bind fun (xs30,j31)=>if (xs22.length+1)*32≤140737488355328 then G3.l0 K a1 m (xs22++[(⟨(rd a1.Rules i23).Head,xs30⟩:Rule)],IntKind.wrap .i64 (i23+1)) else none else none else some (xs22,i23)
def G3 (K:Nat) (a1:Grammar):Option Grammar:=if (([]:List ByteArray).length+a1.Names.length)*16≤140737488355328 then (some ()).bind fun _=>(G3.l0 K a1 K (([]:List Rule),0)).bind fun (xs22,i23)=>some (⟨a1.Start,([]:List ByteArray)++a1.Names,xs22⟩:Grammar) else none
theorem y9 (K:Nat) (a1:Grammar):Hands Try.prog 14 [.agg (cGrammar.e a1)] [] (G3 K a1) (fun (r:Grammar) (v:Value×Value×List (Value×List Value))=>.agg [Ai .i64 r.Start,.sv v.1,.sv v.2.1]) (fun (r:Grammar) (v:Value×Value×List (Value×List Value))=>[.own 9 cS v.1 r.Names,.trg Q1 v.2.1 r.Rules v.2.2 none]):=by
 refine obj_of Try.func14 rfl Try.ntmps14 (le_ rfl) ?_
 refine sSR Y<|sQ (Qb (az:=cGrammar.e a1) Y cAgg) Y<|L6 (az:=[Ai .i64 (0:Int),.lit (.slice none 0 0),.lit (.slice none 0 0)]) al30 (fun _ _=>.cons Y (.cons Y (.cons Y .nil))) Y fun b2=>P0<|M1<|sIf fun h4=>V9 (fun (_:Unit) (g_:(Nat×Value))=>([(1,.fptr ((cGrammar.e a1))),(2,.lit (.pointer (some ⟨b2,0,none⟩))),(3,.lit (.pointer (some ⟨g_.1,0,none⟩)))]:Fr)) (fun (_:Unit) (g_:(Nat×Value))=>([.box b2 [Ai .i64 (0:Int),.lit (.slice none 0 0),.lit (.slice none 0 0)],.box g_.1 [Ai .i64 a1.Start,.sv g_.2,.lit (.slice none 0 0)],.own 9 cS g_.2 (([]:List ByteArray)++a1.Names)]:List Res)) ?_ ?_
 ·rintro _ ⟨b7,v8⟩
  refine M1<|sSR Y<|sA Y Y<|P0<|zc (c:=Q1.c) 1 2 47 Y Y fun v19=>jf 0 Q1 Y<|sLo (G3.l0 K a1) (fun ((xs22,i23):((List Rule)×Int)) (g_:(Value×List (Value×List Value)))=>([(1,.fptr ((cGrammar.e a1))),(2,.lit (.pointer (some ⟨b2,0,none⟩))),(3,.lit (.pointer (some ⟨b7,0,none⟩))),(4,Ai .i64 i23)]:Fr)) (fun ((xs22,i23):((List Rule)×Int)) (g_:(Value×List (Value×List Value)))=>([.trg Q1 g_.1 xs22 g_.2 none,.box b2 [Ai .i64 (0:Int),.lit (.slice none 0 0),.lit (.slice none 0 0)],.box b7 [Ai .i64 a1.Start,.sv v8,.sv g_.1],.own 9 cS v8 (([]:List ByteArray)++a1.Names)]:List Res)) (v19,([]:List (Value×List Value))) (fun _=>Y) [] ⟨Y,Y,Y,Y,trivial⟩ Y ?_ ?_
  ·rintro ⟨xs22,i23⟩ ⟨v20,us21⟩
   refine sSR Y<|sQ (Ja (j:=2) g30 z30 Y Y (le_ Y)) Y<|f7 (j:=1) z30 Y Y Y cAgg ⟨(oLit Y),oSv,oSv,trivial⟩ Y (le_ Y)<|P0<|sPk [3,0,0] (H':=[.own 9 cS v8 (([]:List ByteArray)++a1.Names),.trg Q1 v20 xs22 us21 none,.box b2 [Ai .i64 a1.Start,.sv v8,.sv v20]]) Y<|L2 [2] Try.func14 Try.results14 (rC (j:=2) g30 z30 Y Y Y) ⟨(v8,v20,us21),Y,Y⟩
  ·rintro m ⟨xs22,i23⟩ ⟨v20,us21⟩ again0 out0
   refine M1<|sSR Y<|sM Y Y<|sQ (dFA fa30_2 Y) Y<|sQ (dLd g28 Y Y) Y<|sQ (z8 Try.underlying28 Y) Y<|sQ (dLt Y Y) Y<|P0<|V3 Y (fun h24=>?_) (fun h24=>?_)
   ·refine J2<|M1<|Q7<|sSR Y<|sQ (dFA fa30_2 Y) Y<|sQ (dLd g28 Y Y) Y<|sM Y Y<|j5 fun h25=>sQ (dIx Try.underlying28 z47 Y Y h25 h24) Y<|sQ (dFA fa47_0 Y) Y<|sQ (dLd g3 Y Y) Y<|sQ (W6 (az:=[Ai .i64 (0:Int),.lit (.slice none 0 0)]) Try.underlying47 zv47 pl47 (fun _ _=>.cons Y (.cons Y .nil)) (.c Y Y (cOne (oLit Y)) Y Y .nil)) Y<|L6 (az:=[Ai .i64 (0:Int),.lit (.slice none 0 0)]) al47 (fun _ _=>.cons Y (.cons Y .nil)) Y fun b26=>f7 (j:=0) z47 Y Y Y cAgg ⟨(oLit Y),(oLit Y),trivial⟩ Y (le_ Y)<|P0<|M1<|sSR Y<|sA Y Y<|P0<|zc (c:=M4.c) 0 1 44 Y Y fun v27=>jf 0 M4 Y<|sLo (G3.l1 K a1 i23) (fun ((xs30,j31):((List Conjunct)×Int)) (g_:(Value×List Value))=>([(1,.fptr ((cGrammar.e a1))),(2,.lit (.pointer (some ⟨b2,0,none⟩))),(3,.lit (.pointer (some ⟨b7,0,none⟩))),(4,Ai .i64 i23),(5,.lit (.pointer (some ⟨b26,0,none⟩))),(6,Ai .i64 j31)]:Fr)) (fun ((xs30,j31):((List Conjunct)×Int)) (g_:(Value×List Value))=>([.trg M4 g_.1 xs30 g_.2 none,.box b26 [Ai .i64 ((rd a1.Rules i23).Head),.sv g_.1],.trg Q1 v20 xs22 us21 none,.box b2 [Ai .i64 (0:Int),.lit (.slice none 0 0),.lit (.slice none 0 0)],.box b7 [Ai .i64 a1.Start,.sv v8,.sv v20],.own 9 cS v8 (([]:List ByteArray)++a1.Names)]:List Res)) (v27,([]:List Value)) (fun _=>Y) [] ⟨Y,Y,Y,Y,Y,Y,trivial⟩ Y ?_ ?_
    ·rintro ⟨xs30,j31⟩ ⟨v28,us29⟩
     refine V4 Y<|sQ (V1 fa30_2 Y) Y<|sQ (J3 (j:=4) g28 Y Y Y) Y<|sQ (Ja (j:=1) g47 z47 Y Y (le_ Y)) Y<|sQ (dBS (c:=Q1.c) (xs:=([((⟨(rd a1.Rules i23).Head,xs30⟩:Rule),(v28,us29))]:List (Rule×(Value×List Value)))) Try.underlying28 z47 Vb (.c Y cAgg .nil) Y) Y<|j5 fun h43=>cd Q1<|jd [0] (⟨(rd a1.Rules i23).Head,xs30⟩:Rule) (v28,us29) Y Y<|Ve 1 Y Y Try.underlying28 Vb Y Y Y h43 Y Y fun v44=>sQ (V1 fa30_2 Y) Y<|f7 (j:=3) z28 Y Y Y (cOne oSv) ⟨oSv,trivial⟩ Y (le_ Y)<|P0<|M2<|V4 Y<|sM Y Y<|sQ (z6 Y Y) Y<|sA Y Y<|P0<|M3 (again0 (xs22++[(⟨(rd a1.Rules i23).Head,xs30⟩:Rule)],IntKind.wrap .i64 (i23+1)) (v44,us21++[(v28,us29)])) [0,1,1,1] ⟨Y,Y,Y,Y,trivial⟩ Y
    ·rintro m ⟨xs30,j31⟩ ⟨v28,us29⟩ again1 out1
     refine M1<|sSR Y<|sM Y Y<|sQ (dFA fa30_2 Y) Y<|sQ (dLd g28 Y Y) Y<|sM Y Y<|sQ (dIx Try.underlying28 z47 Y Y h25 h24) Y<|sQ (dFA fa47_1 Y) Y<|sQ (dLd g45 Y Y) Y<|sQ (z8 Try.underlying45 Y) Y<|sQ (dLt Y Y) Y<|P0<|V3 Y (fun h32=>?_) (fun h32=>?_)
     ·refine J2<|M1<|Q7<|sSR Y<|sQ (dFA fa30_2 Y) Y<|sQ (dLd g28 Y Y) Y<|sM Y Y<|sQ (dIx Try.underlying28 z47 Y Y h25 h24) Y<|sQ (dFA fa47_1 Y) Y<|sQ (dLd g45 Y Y) Y<|sM Y Y<|j5 fun h33=>sQ (dIx Try.underlying45 z44 Y Y h33 h32) Y<|sQ (pa g44 z44 Y (le_ Y)) Y<|L6 (az:=[Ab false,.lit (.slice none 0 0)]) al44 (fun _ _=>.cons Y (.cons Y .nil)) Y fun b34=>f7 (j:=0) z44 Y Y Y cAgg ((cConjunct).one _) Y (le_ Y)<|P0<|sIf fun h36=>sIf fun h38=>W9 [(0,49,.lit (.pointer (some ⟨b26,1,none⟩))),(1,50,.sv v28),(2,51,.lit (.pointer (some ⟨b34,0,none⟩))),(3,52,Ab ((rd ((rd a1.Rules i23).Conj) j31).Neg)),(4,53,.es),(5,54,.lit (.pointer (some ⟨b34,1,none⟩))),(6,55,.fsl cSymbol ((rd ((rd a1.Rules i23).Conj) j31).Seq)),(11,60,.lit (.pointer (some ⟨b26,1,none⟩)))] [7,8,9,10,12] [[7,8,9,10,12]] mixed (by kernel_rfl) (by kernel_rfl) (by kernel_rfl) (by kernel_rfl) ⟨?_,trivial⟩
      ·refine mE [49,50,51,52,60] [0,1,2,3,4,5,6,11] (by kernel_rfl) (by kernel_rfl) (by kernel_rfl) (by kernel_rfl) Y Y (.c Y Y Y Y (.r (V1 fa47_1 Y))<|.c Y Y Y Y (.r (J3 (j:=2) g45 Y Y Y))<|.c Y Y Y Y (.r (V1 fa44_0 Y))<|.c Y Y Y Y (.r (J3 (j:=0) g4 Y Y Y))<|.c Y Y Y Y (.r (bh (c:=cSymbol) Try.underlying42 z41 Pc))<|.c Y Y Y Y (.r (V1 fa44_1 Y))<|.c Y Y Y Y (.r (J3 (j:=0) g42 Y Y Y))<|.c Y Y Y Y (.r (V1 fa47_1 Y)) .n) ?_
       intro ab7 l7 nx7
       refine fh 53 41 cSymbol Y fun v40=>sAp (j:=0) Try.underlying42 Pc Y Y Y Y h36 Y Y fun v41=>nx7 (H'':=[.own 41 cSymbol v41 (([]:List Symbol)++((rd ((rd a1.Rules i23).Conj) j31).Seq)),.box b34 [Ab ((rd ((rd a1.Rules i23).Conj) j31).Neg),.fsl cSymbol ((rd ((rd a1.Rules i23).Conj) j31).Seq)],.trg M4 v28 xs30 us29 none,.box b26 [Ai .i64 ((rd a1.Rules i23).Head),.sv v28],.trg Q1 v20 xs22 us21 none,.box b2 [Ai .i64 (0:Int),.lit (.slice none 0 0),.lit (.slice none 0 0)],.box b7 [Ai .i64 a1.Start,.sv v8,.sv v20],.own 9 cS v8 (([]:List ByteArray)++a1.Names)]) [(53,.sv v40),(56,.sv v41)] [0,0,0,0,0,0,0,0] ⟨Y,Y,trivial⟩ (by repeat (first | with_reducible exact .z | refine .s Y ?_)) Y (by kernel_rfl)<|mE [49,50,60] [0,1,2,3,11] (by kernel_rfl) (by kernel_rfl) (by kernel_rfl) (by kernel_rfl) Y Y (.c Y Y Y Y (.r (V1 fa47_1 Y))<|.c Y Y Y Y (.r (J3 (j:=3) g45 Y Y Y))<|.c Y Y Y Y (.r (V1 fa44_0 Y))<|.c Y Y Y Y (.r (J3 (j:=1) g4 Y Y Y))<|.c Y Y Y Y (.r (V1 fa47_1 Y)) .n) ?_
       intro ab8 l8 nx8
       refine sQ (W6 (az:=[Ab false,.lit (.slice none 0 0)]) Try.underlying44 zv44 pl44 (fun _ _=>.cons Y (.cons Y .nil)) (.c Y Y (cOne (oLit Y)) Y Y (.c Y Y (cOne oSv) Y Y .nil))) Y<|nx8 (H'':=[.own 41 cSymbol v41 (([]:List Symbol)++((rd ((rd a1.Rules i23).Conj) j31).Seq)),.box b34 [Ab ((rd ((rd a1.Rules i23).Conj) j31).Neg),.fsl cSymbol ((rd ((rd a1.Rules i23).Conj) j31).Seq)],.trg M4 v28 xs30 us29 none,.box b26 [Ai .i64 ((rd a1.Rules i23).Head),.sv v28],.trg Q1 v20 xs22 us21 none,.box b2 [Ai .i64 (0:Int),.lit (.slice none 0 0),.lit (.slice none 0 0)],.box b7 [Ai .i64 a1.Start,.sv v8,.sv v20],.own 9 cS v8 (([]:List ByteArray)++a1.Names)]) [(53,.sv v40),(56,.sv v41),(57,.agg [Ab ((rd ((rd a1.Rules i23).Conj) j31).Neg),.sv v41])] [0,0,0,0,0,0,0,0] ⟨Y,Y,Y,trivial⟩ (by repeat (first | with_reducible exact .z | refine .s Y ?_)) Y (by kernel_rfl)<|mE [49,50,60] [0,1,11] (by kernel_rfl) (by kernel_rfl) (by kernel_rfl) (by kernel_rfl) Y Y (.c Y Y Y Y (.r (V1 fa47_1 Y))<|.c Y Y Y Y (.r (J3 (j:=3) g45 Y Y Y))<|.c Y Y Y Y (.r (V1 fa47_1 Y)) .n) ?_
       intro ab9 l9 nx9
       refine sQ (dBS (c:=M4.c) (xs:=([((⟨(rd ((rd a1.Rules i23).Conj) j31).Neg,([]:List Symbol)++((rd ((rd a1.Rules i23).Conj) j31).Seq)⟩:Conjunct),v41)]:List (Conjunct×Value))) Try.underlying45 z44 Wb (.c Y cAgg .nil) Y) Y<|nx9 (H'':=[.own 41 cSymbol v41 (([]:List Symbol)++((rd ((rd a1.Rules i23).Conj) j31).Seq)),.box b34 [Ab ((rd ((rd a1.Rules i23).Conj) j31).Neg),.fsl cSymbol ((rd ((rd a1.Rules i23).Conj) j31).Seq)],.trg M4 v28 xs30 us29 none,.box b26 [Ai .i64 ((rd a1.Rules i23).Head),.sv v28],.trg Q1 v20 xs22 us21 none,.box b2 [Ai .i64 (0:Int),.lit (.slice none 0 0),.lit (.slice none 0 0)],.box b7 [Ai .i64 a1.Start,.sv v8,.sv v20],.own 9 cS v8 (([]:List ByteArray)++a1.Names)]) [(53,.sv v40),(56,.sv v41),(57,.agg [Ab ((rd ((rd a1.Rules i23).Conj) j31).Neg),.sv v41]),(58,.fsl M4.c ([((⟨(rd ((rd a1.Rules i23).Conj) j31).Neg,([]:List Symbol)++((rd ((rd a1.Rules i23).Conj) j31).Seq)⟩:Conjunct),v41)]:List (Conjunct×Value)))] [0,0,0,0,0,0,0,0] ⟨Y,Y,Y,Y,trivial⟩ (by repeat (first | with_reducible exact .z | refine .s Y ?_)) Y (by kernel_rfl)<|mE [60] [0,1,11] (by kernel_rfl) (by kernel_rfl) (by kernel_rfl) (by kernel_rfl) Y Y (.c Y Y Y Y (.r (V1 fa47_1 Y))<|.c Y Y Y Y (.r (J3 (j:=3) g45 Y Y Y))<|.c Y Y Y Y (.r (V1 fa47_1 Y)) .n) ?_
       intro ab10 l10 nx10
       refine cd M4<|jd [0] (⟨(rd ((rd a1.Rules i23).Conj) j31).Neg,([]:List Symbol)++((rd ((rd a1.Rules i23).Conj) j31).Seq)⟩:Conjunct) v41 Y Y<|Ve 1 Y Y Try.underlying45 Wb Y Y Y h38 Y Y fun v42=>nx10 (H'':=[.trg M4 v42 (xs30++[(⟨(rd ((rd a1.Rules i23).Conj) j31).Neg,([]:List Symbol)++((rd ((rd a1.Rules i23).Conj) j31).Seq)⟩:Conjunct)]) (us29++[v41]) none,.box b34 [Ab ((rd ((rd a1.Rules i23).Conj) j31).Neg),.fsl cSymbol ((rd ((rd a1.Rules i23).Conj) j31).Seq)],.box b26 [Ai .i64 ((rd a1.Rules i23).Head),.sv v28],.trg Q1 v20 xs22 us21 none,.box b2 [Ai .i64 (0:Int),.lit (.slice none 0 0),.lit (.slice none 0 0)],.box b7 [Ai .i64 a1.Start,.sv v8,.sv v20],.own 9 cS v8 (([]:List ByteArray)++a1.Names)]) [(53,.sv v40),(56,.sv v41),(57,.agg [Ab ((rd ((rd a1.Rules i23).Conj) j31).Neg),.sv v41]),(58,.fsl M4.c ([((⟨(rd ((rd a1.Rules i23).Conj) j31).Neg,([]:List Symbol)++((rd ((rd a1.Rules i23).Conj) j31).Seq)⟩:Conjunct),v41)]:List (Conjunct×Value))),(59,.sv v42)] [0,0,0,0,0,0,0] ⟨Y,Y,Y,Y,Y,trivial⟩ (by repeat (first | with_reducible exact .z | refine .s Y ?_)) Y (by kernel_rfl)<|mE [] [11] (by kernel_rfl) (by kernel_rfl) (by kernel_rfl) (by kernel_rfl) Y Y (.c Y Y Y Y (.r (V1 fa47_1 Y)) .n) ?_
       intro ab12 l12 nx12
       refine f7 (j:=2) z45 Y Y Y (cOne oSv) ⟨oSv,trivial⟩ Y (le_ Y)<|nx12 (H'':=[.trg M4 v42 (xs30++[(⟨(rd ((rd a1.Rules i23).Conj) j31).Neg,([]:List Symbol)++((rd ((rd a1.Rules i23).Conj) j31).Seq)⟩:Conjunct)]) (us29++[v41]) none,.box b34 [Ab ((rd ((rd a1.Rules i23).Conj) j31).Neg),.fsl cSymbol ((rd ((rd a1.Rules i23).Conj) j31).Seq)],.box b26 [Ai .i64 ((rd a1.Rules i23).Head),.sv v42],.trg Q1 v20 xs22 us21 none,.box b2 [Ai .i64 (0:Int),.lit (.slice none 0 0),.lit (.slice none 0 0)],.box b7 [Ai .i64 a1.Start,.sv v8,.sv v20],.own 9 cS v8 (([]:List ByteArray)++a1.Names)]) [(53,.sv v40),(56,.sv v41),(57,.agg [Ab ((rd ((rd a1.Rules i23).Conj) j31).Neg),.sv v41]),(58,.fsl M4.c ([((⟨(rd ((rd a1.Rules i23).Conj) j31).Neg,([]:List Symbol)++((rd ((rd a1.Rules i23).Conj) j31).Seq)⟩:Conjunct),v41)]:List (Conjunct×Value))),(59,.sv v42)] [0,0,0,0,0,0,0] ⟨Y,Y,Y,Y,Y,trivial⟩ (by repeat (first | with_reducible exact .z | refine .s Y ?_)) Y (by kernel_rfl)<|mEnd [] (by kernel_rfl) (by kernel_rfl) (by kernel_rfl) (.n)<|M2<|V4 Y<|sM Y Y<|sQ (z6 Y Y) Y<|sA Y Y<|P0<|M3 (again1 (xs30++[(⟨(rd ((rd a1.Rules i23).Conj) j31).Neg,([]:List Symbol)++((rd ((rd a1.Rules i23).Conj) j31).Seq)⟩:Conjunct)],IntKind.wrap .i64 (j31+1)) (v42,us29++[v41])) [0,1,1,1,1,1] ⟨Y,Y,Y,Y,Y,Y,trivial⟩ Y
     ·refine c6 Y<|M3 (out1 (xs30,j31) (v28,us29)) [0,0,0,0,0,0] ⟨Y,Y,Y,Y,Y,Y,trivial⟩ Y
   ·refine c6 Y<|M3 (out0 (xs22,i23) (v20,us21)) [0,0,0,0] ⟨Y,Y,Y,Y,trivial⟩ Y
 ·intro join8
  refine W9 [(0,8,.fptr ((cGrammar.e a1))),(1,9,Ai .i64 a1.Start),(2,10,.es),(3,11,.fptr ((cGrammar.e a1).drop 1)),(4,12,.fsl cS a1.Names)] [5,6,7,8] [[5,6,7,8],[5,7,6,8],[7,5,6,8]] mixed (by kernel_rfl) (by kernel_rfl) (by kernel_rfl) (by kernel_rfl) ⟨?_,?_,?_,trivial⟩
  ·refine mE [8,9] [0,1,2,3,4] (by kernel_rfl) (by kernel_rfl) (by kernel_rfl) (by kernel_rfl) Y Y (.c Y Y Y Y (.r (dFA fa30_0 Y))<|.c Y Y Y Y (.r (dLd g3 Y Y))<|.c Y Y Y Y (.r (bh (c:=cS) Try.underlying27 z9 gb))<|.c Y Y Y Y (.r (dFA fa30_1 Y))<|.c Y Y Y Y (.r (dLd g27 Y Y)) .n) ?_
   intro ab5 l5 nx5
   refine fh 10 9 cS Y fun v10=>sAp (j:=0) Try.underlying27 gb Y Y Y Y h4 Y Y fun v11=>nx5 (H'':=[.own 9 cS v11 (([]:List ByteArray)++a1.Names),.box b2 [Ai .i64 (0:Int),.lit (.slice none 0 0),.lit (.slice none 0 0)]]) [(10,.sv v10),(13,.sv v11)] [0,0] ⟨Y,Y,trivial⟩ (by repeat (first | with_reducible exact .z | refine .s Y ?_)) Y (by kernel_rfl)<|mE [] [0,1] (by kernel_rfl) (by kernel_rfl) (by kernel_rfl) (by kernel_rfl) Y Y (.c Y Y Y Y (.r (dFA fa30_0 Y))<|.c Y Y Y Y (.r (dLd g3 Y Y)) .n) ?_
   intro ab6 l6 nx6
   refine sQ (W6 (az:=[Ai .i64 (0:Int),.lit (.slice none 0 0),.lit (.slice none 0 0)]) Try.underlying30 zv30 pl30 (fun _ _=>.cons Y (.cons Y (.cons Y .nil))) (.c Y Y (cOne (oLit Y)) Y Y (.c Y Y (cOne oSv) Y Y .nil))) Y<|nx6 (H'':=[.own 9 cS v11 (([]:List ByteArray)++a1.Names),.box b2 [Ai .i64 (0:Int),.lit (.slice none 0 0),.lit (.slice none 0 0)]]) [(10,.sv v10),(13,.sv v11),(14,.agg [Ai .i64 a1.Start,.sv v11,.lit (.slice none 0 0)])] [0,0] ⟨Y,Y,Y,trivial⟩ (by repeat (first | with_reducible exact .z | refine .s Y ?_)) Y (by kernel_rfl)<|mE [] [] (by kernel_rfl) (by kernel_rfl) (by kernel_rfl) (by kernel_rfl) Y Y (.n) ?_
   intro ab7 l7 nx7
   refine L6 (az:=[Ai .i64 (0:Int),.lit (.slice none 0 0),.lit (.slice none 0 0)]) al30 (fun _ _=>.cons Y (.cons Y (.cons Y .nil))) Y fun b12=>nx7 (H'':=[.box b12 [Ai .i64 (0:Int),.lit (.slice none 0 0),.lit (.slice none 0 0)],.own 9 cS v11 (([]:List ByteArray)++a1.Names),.box b2 [Ai .i64 (0:Int),.lit (.slice none 0 0),.lit (.slice none 0 0)]]) [(3,.lit (.pointer (some ⟨b12,0,none⟩))),(10,.sv v10),(13,.sv v11),(14,.agg [Ai .i64 a1.Start,.sv v11,.lit (.slice none 0 0)])] [0,0,0] ⟨Y,Y,Y,Y,trivial⟩ (by repeat (first | with_reducible exact .z | refine .s Y ?_)) Y (by kernel_rfl)<|mE [] [] (by kernel_rfl) (by kernel_rfl) (by kernel_rfl) (by kernel_rfl) Y Y (.n) ?_
   intro ab8 l8 nx8
   refine f7 (j:=0) z30 Y Y Y cAgg ⟨(oLit Y),oSv,(oLit Y),trivial⟩ Y (le_ Y)<|nx8 (H'':=[.box b12 [Ai .i64 a1.Start,.sv v11,.lit (.slice none 0 0)],.own 9 cS v11 (([]:List ByteArray)++a1.Names),.box b2 [Ai .i64 (0:Int),.lit (.slice none 0 0),.lit (.slice none 0 0)]]) [(3,.lit (.pointer (some ⟨b12,0,none⟩))),(10,.sv v10),(13,.sv v11),(14,.agg [Ai .i64 a1.Start,.sv v11,.lit (.slice none 0 0)])] [0,0,0] ⟨Y,Y,Y,Y,trivial⟩ (by repeat (first | with_reducible exact .z | refine .s Y ?_)) Y (by kernel_rfl)<|mEnd [] (by kernel_rfl) (by kernel_rfl) (by kernel_rfl) (.n)<|M3 (join8 () (b12,v11)) [2,0,0] ⟨Y,Y,Y,trivial⟩ Y
  ·refine mE [8,9] [0,1,2,3,4] (by kernel_rfl) (by kernel_rfl) (by kernel_rfl) (by kernel_rfl) Y Y (.c Y Y Y Y (.r (dFA fa30_0 Y))<|.c Y Y Y Y (.r (dLd g3 Y Y))<|.c Y Y Y Y (.r (bh (c:=cS) Try.underlying27 z9 gb))<|.c Y Y Y Y (.r (dFA fa30_1 Y))<|.c Y Y Y Y (.r (dLd g27 Y Y)) .n) ?_
   intro ab5 l5 nx5
   refine fh 10 9 cS Y fun v13=>sAp (j:=0) Try.underlying27 gb Y Y Y Y h4 Y Y fun v14=>nx5 (H'':=[.own 9 cS v14 (([]:List ByteArray)++a1.Names),.box b2 [Ai .i64 (0:Int),.lit (.slice none 0 0),.lit (.slice none 0 0)]]) [(10,.sv v13),(13,.sv v14)] [0,0] ⟨Y,Y,trivial⟩ (by repeat (first | with_reducible exact .z | refine .s Y ?_)) Y (by kernel_rfl)<|mE [8,9] [0,1] (by kernel_rfl) (by kernel_rfl) (by kernel_rfl) (by kernel_rfl) Y Y (.c Y Y Y Y (.r (dFA fa30_0 Y))<|.c Y Y Y Y (.r (dLd g3 Y Y)) .n) ?_
   intro ab7 l7 nx7
   refine L6 (az:=[Ai .i64 (0:Int),.lit (.slice none 0 0),.lit (.slice none 0 0)]) al30 (fun _ _=>.cons Y (.cons Y (.cons Y .nil))) Y fun b15=>nx7 (H'':=[.box b15 [Ai .i64 (0:Int),.lit (.slice none 0 0),.lit (.slice none 0 0)],.own 9 cS v14 (([]:List ByteArray)++a1.Names),.box b2 [Ai .i64 (0:Int),.lit (.slice none 0 0),.lit (.slice none 0 0)]]) [(3,.lit (.pointer (some ⟨b15,0,none⟩))),(10,.sv v13),(13,.sv v14)] [0,0,0] ⟨Y,Y,Y,trivial⟩ (by repeat (first | with_reducible exact .z | refine .s Y ?_)) Y (by kernel_rfl)<|mE [] [0,1] (by kernel_rfl) (by kernel_rfl) (by kernel_rfl) (by kernel_rfl) Y Y (.c Y Y Y Y (.r (dFA fa30_0 Y))<|.c Y Y Y Y (.r (dLd g3 Y Y)) .n) ?_
   intro ab6 l6 nx6
   refine sQ (W6 (az:=[Ai .i64 (0:Int),.lit (.slice none 0 0),.lit (.slice none 0 0)]) Try.underlying30 zv30 pl30 (fun _ _=>.cons Y (.cons Y (.cons Y .nil))) (.c Y Y (cOne (oLit Y)) Y Y (.c Y Y (cOne oSv) Y Y .nil))) Y<|nx6 (H'':=[.box b15 [Ai .i64 (0:Int),.lit (.slice none 0 0),.lit (.slice none 0 0)],.own 9 cS v14 (([]:List ByteArray)++a1.Names),.box b2 [Ai .i64 (0:Int),.lit (.slice none 0 0),.lit (.slice none 0 0)]]) [(3,.lit (.pointer (some ⟨b15,0,none⟩))),(10,.sv v13),(13,.sv v14),(14,.agg [Ai .i64 a1.Start,.sv v14,.lit (.slice none 0 0)])] [0,0,0] ⟨Y,Y,Y,Y,trivial⟩ (by repeat (first | with_reducible exact .z | refine .s Y ?_)) Y (by kernel_rfl)<|mE [] [] (by kernel_rfl) (by kernel_rfl) (by kernel_rfl) (by kernel_rfl) Y Y (.n) ?_
   intro ab8 l8 nx8
   refine f7 (j:=0) z30 Y Y Y cAgg ⟨(oLit Y),oSv,(oLit Y),trivial⟩ Y (le_ Y)<|nx8 (H'':=[.box b15 [Ai .i64 a1.Start,.sv v14,.lit (.slice none 0 0)],.own 9 cS v14 (([]:List ByteArray)++a1.Names),.box b2 [Ai .i64 (0:Int),.lit (.slice none 0 0),.lit (.slice none 0 0)]]) [(3,.lit (.pointer (some ⟨b15,0,none⟩))),(10,.sv v13),(13,.sv v14),(14,.agg [Ai .i64 a1.Start,.sv v14,.lit (.slice none 0 0)])] [0,0,0] ⟨Y,Y,Y,Y,trivial⟩ (by repeat (first | with_reducible exact .z | refine .s Y ?_)) Y (by kernel_rfl)<|mEnd [] (by kernel_rfl) (by kernel_rfl) (by kernel_rfl) (.n)<|M3 (join8 () (b15,v14)) [2,0,0] ⟨Y,Y,Y,trivial⟩ Y
  ·refine mE [8,9,10,11,12] [0,1,2,3,4] (by kernel_rfl) (by kernel_rfl) (by kernel_rfl) (by kernel_rfl) Y Y (.c Y Y Y Y (.r (dFA fa30_0 Y))<|.c Y Y Y Y (.r (dLd g3 Y Y))<|.c Y Y Y Y (.r (bh (c:=cS) Try.underlying27 z9 gb))<|.c Y Y Y Y (.r (dFA fa30_1 Y))<|.c Y Y Y Y (.r (dLd g27 Y Y)) .n) ?_
   intro ab7 l7 nx7
   refine L6 (az:=[Ai .i64 (0:Int),.lit (.slice none 0 0),.lit (.slice none 0 0)]) al30 (fun _ _=>.cons Y (.cons Y (.cons Y .nil))) Y fun b16=>nx7 (H'':=[.box b16 [Ai .i64 (0:Int),.lit (.slice none 0 0),.lit (.slice none 0 0)],.box b2 [Ai .i64 (0:Int),.lit (.slice none 0 0),.lit (.slice none 0 0)]]) [(3,.lit (.pointer (some ⟨b16,0,none⟩)))] [0,0] ⟨Y,trivial⟩ (by repeat (first | with_reducible exact .z | refine .s Y ?_)) Y (by kernel_rfl)<|mE [8,9] [0,1,2,3,4] (by kernel_rfl) (by kernel_rfl) (by kernel_rfl) (by kernel_rfl) Y Y (.c Y Y Y Y (.r (dFA fa30_0 Y))<|.c Y Y Y Y (.r (dLd g3 Y Y))<|.c Y Y Y Y (.r (bh (c:=cS) Try.underlying27 z9 gb))<|.c Y Y Y Y (.r (dFA fa30_1 Y))<|.c Y Y Y Y (.r (dLd g27 Y Y)) .n) ?_
   intro ab5 l5 nx5
   refine fh 10 9 cS Y fun v17=>sAp (j:=0) Try.underlying27 gb Y Y Y Y h4 Y Y fun v18=>nx5 (H'':=[.own 9 cS v18 (([]:List ByteArray)++a1.Names),.box b16 [Ai .i64 (0:Int),.lit (.slice none 0 0),.lit (.slice none 0 0)],.box b2 [Ai .i64 (0:Int),.lit (.slice none 0 0),.lit (.slice none 0 0)]]) [(3,.lit (.pointer (some ⟨b16,0,none⟩))),(10,.sv v17),(13,.sv v18)] [0,0,0] ⟨Y,Y,Y,trivial⟩ (by repeat (first | with_reducible exact .z | refine .s Y ?_)) Y (by kernel_rfl)<|mE [] [0,1] (by kernel_rfl) (by kernel_rfl) (by kernel_rfl) (by kernel_rfl) Y Y (.c Y Y Y Y (.r (dFA fa30_0 Y))<|.c Y Y Y Y (.r (dLd g3 Y Y)) .n) ?_
   intro ab6 l6 nx6
   refine sQ (W6 (az:=[Ai .i64 (0:Int),.lit (.slice none 0 0),.lit (.slice none 0 0)]) Try.underlying30 zv30 pl30 (fun _ _=>.cons Y (.cons Y (.cons Y .nil))) (.c Y Y (cOne (oLit Y)) Y Y (.c Y Y (cOne oSv) Y Y .nil))) Y<|nx6 (H'':=[.own 9 cS v18 (([]:List ByteArray)++a1.Names),.box b16 [Ai .i64 (0:Int),.lit (.slice none 0 0),.lit (.slice none 0 0)],.box b2 [Ai .i64 (0:Int),.lit (.slice none 0 0),.lit (.slice none 0 0)]]) [(3,.lit (.pointer (some ⟨b16,0,none⟩))),(10,.sv v17),(13,.sv v18),(14,.agg [Ai .i64 a1.Start,.sv v18,.lit (.slice none 0 0)])] [0,0,0] ⟨Y,Y,Y,Y,trivial⟩ (by repeat (first | with_reducible exact .z | refine .s Y ?_)) Y (by kernel_rfl)<|mE [] [] (by kernel_rfl) (by kernel_rfl) (by kernel_rfl) (by kernel_rfl) Y Y (.n) ?_
   intro ab8 l8 nx8
   refine f7 (j:=1) z30 Y Y Y cAgg ⟨(oLit Y),oSv,(oLit Y),trivial⟩ Y (le_ Y)<|nx8 (H'':=[.own 9 cS v18 (([]:List ByteArray)++a1.Names),.box b16 [Ai .i64 a1.Start,.sv v18,.lit (.slice none 0 0)],.box b2 [Ai .i64 (0:Int),.lit (.slice none 0 0),.lit (.slice none 0 0)]]) [(3,.lit (.pointer (some ⟨b16,0,none⟩))),(10,.sv v17),(13,.sv v18),(14,.agg [Ai .i64 a1.Start,.sv v18,.lit (.slice none 0 0)])] [0,0,0] ⟨Y,Y,Y,Y,trivial⟩ (by repeat (first | with_reducible exact .z | refine .s Y ?_)) Y (by kernel_rfl)<|mEnd [] (by kernel_rfl) (by kernel_rfl) (by kernel_rfl) (.n)<|M3 (join8 () (b16,v18)) [2,1,0] ⟨Y,Y,Y,trivial⟩ Y
def j3.l0 (K:Nat) (s2:ByteArray):Nat→Int→Option (Int ⊕ Bool)
 | 0,_=>none
 | m+1,i44=>if i44≤(s2.size:Int) then if i44≤8 then none else some (.inl i44) else some (.inl i44)
def j3.l1 (K:Nat) (s2:ByteArray):Nat→Int→Option (Int ⊕ Bool)
 | 0,_=>none
 | m+1,i53=>if i53≤(s2.size:Int) then if i53≤8 then none else some (.inl i53) else some (.inl i53)
def j3.l2 (K:Nat) (s2:ByteArray) (x6:Q2):Nat→Int→Option (Int ⊕ Bool)
 | 0,_=>none
 | m+1,i96=>if i96≤(s2.size:Int) then if i96≤8 then (L4 K x6 2).bind fun r99=>none else some (.inl i96) else some (.inl i96)
def j3.l3 (K:Nat) (s2:ByteArray):Nat→(Q2×Q2×Int)→Option ((Q2×Q2×Int) ⊕ Bool)
 | 0,_=>none
 | m+1,(xs107,xs108,i109)=>if i109≤(s2.size:Int) then if i109≤8 then (L4 K xs108 2).bind fun r112=>(L4 K xs107 2).bind fun r114=>(P1 K r112.2.1).bind fun r116=>if r116≠0 then some (.inr false) else (P1 K r114.2.1).bind fun r119=>if r119≠0 then some (.inr false) else if r112.1=r114.1 then some (.inr false) else if i109<(s2.size:Int) then if i109<8 then if 0≤i109 then (y6 K r112.2.2 (IntKind.wrap .i64 (bt s2 i109))).bind fun r126=>(y6 K r114.2.2 (IntKind.wrap .i64 (bt s2 i109))).bind fun r128=>j3.l3 K s2 m (r128.2,r126.2,IntKind.wrap .i64 (i109+1)) else none else j3.l3 K s2 m (r114.2.2,r112.2.2,IntKind.wrap .i64 (i109+1)) else j3.l3 K s2 m (r114.2.2,r112.2.2,IntKind.wrap .i64 (i109+1)) else some (.inl (xs107,xs108,i109)) else some (.inl (xs107,xs108,i109))
def j3 (K:Nat) (g1:Grammar) (s2:ByteArray):Option Bool:=(M7 K).bind fun r3=>if (!r3)=true then some false else (P7 K g1).bind fun r8=>(match r8 with | (none,q7)=>(P1 K q7).bind fun r10=>if r10≠0 then ((P1 K q7).bind fun r14=>if r14=0 then some () else some ()).bind fun _=>some true else if 64≤(g1.Names.length:Int) then ((P1 K q7).bind fun r19=>if r19=0 then some () else some ()).bind fun _=>some true else if 256≤(g1.Rules.length:Int) then ((P1 K q7).bind fun r24=>if r24=0 then some () else some ()).bind fun _=>some true else (G3 K g1).bind fun r27=>if (r27.Names.length+([(⟨#[110,48,116]⟩:ByteArray)]:List ByteArray).length)*16≤140737488355328 then if (r27.Rules.length+([(⟨(g1.Names.length:Int),([(⟨true,([(⟨g1.Start,(0:Int),(0:Int)⟩:Symbol)]:List Symbol)⟩:Conjunct)]:List Conjunct)⟩:Rule)]:List Rule).length)*32≤140737488355328 then (P7 K (⟨(g1.Names.length:Int),r27.Names++([(⟨#[110,48,116]⟩:ByteArray)]:List ByteArray),r27.Rules++([(⟨(g1.Names.length:Int),([(⟨true,([(⟨g1.Start,(0:Int),(0:Int)⟩:Symbol)]:List Symbol)⟩:Conjunct)]:List Conjunct)⟩:Rule)]:List Rule)⟩:Grammar)).bind fun r39=>(match r39 with | (none,q38)=>(P1 K q38).bind fun r41=>if r41≠0 then some true else brk (j3.l0 K s2 K 0) fun i44=>some true | (some x37,q38)=>(P1 K q38).bind fun r50=>if r50≠0 then some false else brk (j3.l1 K s2 K 0) fun i53=>some true) else none else none | (some x6,q7)=>(P1 K q7).bind fun r59=>if r59≠0 then ((P1 K q7).bind fun r64=>if r64=0 then some true else some false).bind fun t62=>some t62 else if 64≤(g1.Names.length:Int) then ((P1 K q7).bind fun r70=>if r70=0 then some true else some false).bind fun t68=>some t68 else if 256≤(g1.Rules.length:Int) then ((P1 K q7).bind fun r76=>if r76=0 then some true else some false).bind fun t74=>some t74 else (G3 K g1).bind fun r79=>if (r79.Names.length+([(⟨#[110,48,116]⟩:ByteArray)]:List ByteArray).length)*16≤140737488355328 then if (r79.Rules.length+([(⟨(g1.Names.length:Int),([(⟨true,([(⟨g1.Start,(0:Int),(0:Int)⟩:Symbol)]:List Symbol)⟩:Conjunct)]:List Conjunct)⟩:Rule)]:List Rule).length)*32≤140737488355328 then (P7 K (⟨(g1.Names.length:Int),r79.Names++([(⟨#[110,48,116]⟩:ByteArray)]:List ByteArray),r79.Rules++([(⟨(g1.Names.length:Int),([(⟨true,([(⟨g1.Start,(0:Int),(0:Int)⟩:Symbol)]:List Symbol)⟩:Conjunct)]:List Conjunct)⟩:Rule)]:List Rule)⟩:Grammar)).bind fun r91=>(match r91 with | (none,q90)=>(P1 K q90).bind fun r93=>if r93≠0 then some true else brk (j3.l2 K s2 x6 K 0) fun i96=>some true | (some x89,q90)=>(P1 K q90).bind fun r104=>if r104≠0 then some false else brk (j3.l3 K s2 K (x89,x6,0)) fun (xs107,xs108,i109)=>some true) else none else none)
theorem Jb (K:Nat) (g1:Grammar) (s2:ByteArray):Pure Try.prog 5 [.agg (cGrammar.e g1),.lit (.string s2)] (j3 K g1 s2) (fun r=>Ab r):=by
 refine spec_of' Try.func5 rfl Try.ntmps5 (le_ rfl) ?_
 refine sSR Y<|sQ (Qb (az:=cGrammar.e g1) Y cAgg) Y<|sA Y Y<|P0<|M1<|sSR Y<|j4 fun r3 e4=>sQ (J6 ent7 (mc K) e4 (.nil)) Y<|sQ (Gc Y) Y<|P0<|L8 Y (fun h5=>?_) (fun h5=>?_)
 ·refine sSR Y<|sA Y Y<|P0<|L2 [] Try.func5 Try.results5 (rT Y) ⟨Y,Y⟩
 ·refine J2<|sSR Y<|sQ (pa g30 z30 Y (le_ Y)) Y<|j4 fun r8 e9=>?_
  rcases r8 with ⟨_ | x6,q7⟩
  ·refine G5 [] ent8 Y (j8 K _) e9 Y (.s Y .nil) Y fun _=>sM Y Y<|sQ (dX Y Y) Y<|sQ (dX Y Y) Y<|sA Y Y<|sA Y Y<|P0<|M1<|sSR Y<|sM Y Y<|j4 fun r10 e11=>sQ (J6 ent11 (V2 K _) e11 (.s Y .nil)) Y<|sQ (dNe Y Y) Y<|sM Y Y<|J4 (fun h12=>?_) (fun h12=>?_)
   ·refine sU 3 Y Y Y (dT h12) Y Y<|sU 3 Y Y Y (dT h12) Y Y<|sU 3 Y Y Y (dT h12) Y Y<|sU 3 Y Y Y (dT h12) Y Y<|sQ (L1 Y (dT h12) Y) Y<|sM Y Y<|sU 9 Y Y Y Y Y Y<|sU 9 Y Y Y Y Y Y<|sU 9 Y Y Y Y Y Y<|sU 9 Y Y Y Y Y Y<|sQ (L1 Y Y Y) Y<|P0<|q6 Y Y<|M1<|V9 (fun (_:Unit) (_:Unit)=>([(4,Ab true)]:Fr)) (fun (_:Unit) (_:Unit)=>([]:List Res)) ?_ ?_
    ·rintro _ _
     refine L2 [] Try.func5 Try.results5 (rT Y) ⟨Y,Y⟩
    ·intro join12
     refine V4 Y<|sM Y Y<|j4 fun r14 e15=>sQ (J6 ent11 (V2 K _) e15 (.s Y .nil)) Y<|sQ (dEq Y Y) Y<|sM Y Y<|J4 (fun h16=>?_) (fun h16=>?_)
     ·refine sU 3 Y Y Y (dT h16) Y Y<|sU 3 Y Y Y (dT h16) Y Y<|sQ (L1 Y (dT h16) Y) Y<|sA Y Y<|P0<|M3 (join12 () ()) [] ⟨Y,trivial⟩ Y
     ·refine sG 3 Y Y Y (dF h16) Y (dMv Y) Y<|sG 3 Y Y Y (dF h16) Y (zb Try.underlying23 Y pnNil) Y<|sQ (J1 Y (dF h16) Y) Y<|sA Y Y<|P0<|M3 (join12 () ()) [] ⟨Y,trivial⟩ Y
   ·refine sG 3 Y Y Y (dF h12) Y (dFA fa30_1 Y) Y<|sG 3 Y Y Y (dF h12) Y (dLd g27 Y Y) Y<|sG 3 Y Y Y (dF h12) Y (z8 Try.underlying27 Y) Y<|sG 3 Y Y Y (dF h12) Y (dGe Y Y) Y<|sQ (J1 Y (dF h12) Y) Y<|sM Y Y<|J4 (fun h17=>?_) (fun h17=>?_)
    ·refine sU 9 Y Y Y (dT h17) Y Y<|sU 9 Y Y Y (dT h17) Y Y<|sU 9 Y Y Y (dT h17) Y Y<|sU 9 Y Y Y (dT h17) Y Y<|sQ (L1 Y (dT h17) Y) Y<|P0<|q6 Y Y<|M1<|V9 (fun (_:Unit) (_:Unit)=>([(4,Ab true)]:Fr)) (fun (_:Unit) (_:Unit)=>([]:List Res)) ?_ ?_
     ·rintro _ _
      refine L2 [] Try.func5 Try.results5 (rT Y) ⟨Y,Y⟩
     ·intro join17
      refine V4 Y<|sM Y Y<|j4 fun r19 e20=>sQ (J6 ent11 (V2 K _) e20 (.s Y .nil)) Y<|sQ (dEq Y Y) Y<|sM Y Y<|J4 (fun h21=>?_) (fun h21=>?_)
      ·refine sU 3 Y Y Y (dT h21) Y Y<|sU 3 Y Y Y (dT h21) Y Y<|sQ (L1 Y (dT h21) Y) Y<|sA Y Y<|P0<|M3 (join17 () ()) [] ⟨Y,trivial⟩ Y
      ·refine sG 3 Y Y Y (dF h21) Y (dMv Y) Y<|sG 3 Y Y Y (dF h21) Y (zb Try.underlying23 Y pnNil) Y<|sQ (J1 Y (dF h21) Y) Y<|sA Y Y<|P0<|M3 (join17 () ()) [] ⟨Y,trivial⟩ Y
    ·refine sG 9 Y Y Y (dF h17) Y (dFA fa30_2 Y) Y<|sG 9 Y Y Y (dF h17) Y (dLd g28 Y Y) Y<|sG 9 Y Y Y (dF h17) Y (z8 Try.underlying28 Y) Y<|sG 9 Y Y Y (dF h17) Y (dGe Y Y) Y<|sQ (J1 Y (dF h17) Y) Y<|P0<|V3 Y (fun h22=>?_) (fun h22=>?_)
     ·refine M1<|V9 (fun (_:Unit) (_:Unit)=>([(4,Ab true)]:Fr)) (fun (_:Unit) (_:Unit)=>([]:List Res)) ?_ ?_
      ·rintro _ _
       refine L2 [] Try.func5 Try.results5 (rT Y) ⟨Y,Y⟩
      ·intro join22
       refine V4 Y<|sM Y Y<|j4 fun r24 e25=>sQ (J6 ent11 (V2 K _) e25 (.s Y .nil)) Y<|sQ (dEq Y Y) Y<|sM Y Y<|J4 (fun h26=>?_) (fun h26=>?_)
       ·refine sU 3 Y Y Y (dT h26) Y Y<|sU 3 Y Y Y (dT h26) Y Y<|sQ (L1 Y (dT h26) Y) Y<|sA Y Y<|P0<|M3 (join22 () ()) [] ⟨Y,trivial⟩ Y
       ·refine sG 3 Y Y Y (dF h26) Y (dMv Y) Y<|sG 3 Y Y Y (dF h26) Y (zb Try.underlying23 Y pnNil) Y<|sQ (J1 Y (dF h26) Y) Y<|sA Y Y<|P0<|M3 (join22 () ()) [] ⟨Y,trivial⟩ Y
     ·refine J2<|sSR Y<|sQ (pa g30 z30 Y (le_ Y)) Y<|j4 fun r27 e28=>G5 [] ent14 Y (y9 K _) e28 Y (.s Y .nil) Y fun ⟨v29,v30,us31⟩=>L6 (az:=[Ai .i64 (0:Int),.lit (.slice none 0 0),.lit (.slice none 0 0)]) al30 (fun _ _=>.cons Y (.cons Y (.cons Y .nil))) Y fun b32=>f7 (j:=0) z30 Y Y Y cAgg ⟨(oLit Y),oSv,oSv,trivial⟩ Y (le_ Y)<|sES Y<|sQ (V1 fa30_1 Y) Y<|sQ (J3 (j:=0) g27 Y Y Y) Y<|sQ (dBS (c:=cS) (xs:=([(⟨#[110,48,116]⟩:ByteArray)]:List ByteArray)) Try.underlying27 z9 gb (.c Y (cOne (oLit Y)) .nil) Y) Y<|j5 fun h33=>sAp (j:=1) Try.underlying27 gb Y Y Y Y h33 Y Y fun v34=>sQ (V1 fa30_1 Y) Y<|f7 (j:=0) z27 Y Y Y (cOne oSv) ⟨oSv,trivial⟩ Y (le_ Y)<|sES Y<|sQ (V1 fa30_2 Y) Y<|sQ (J3 (j:=0) g28 Y Y Y) Y<|sQ (dFA fa30_1 Y) Y<|sQ (dLd g27 Y Y) Y<|sQ (z8 Try.underlying27 Y) Y<|sQ (dFA fa30_0 Y) Y<|sQ (dLd g3 Y Y) Y<|sQ (W6 (az:=[Ai .i64 (0:Int),Ai .i64 (0:Int),Ai .i64 (0:Int)]) Try.underlying41 zv41 pl41 (fun _ _=>.cons Y (.cons Y (.cons Y .nil))) (.c Y Y (cOne (oLit Y)) Y Y .nil)) Y<|sQ (dBS (c:=cSymbol) (xs:=([(⟨g1.Start,(0:Int),(0:Int)⟩:Symbol)]:List Symbol)) Try.underlying42 z41 Pc (.c Y cAgg .nil) Y) Y<|sQ (W6 (az:=[Ab false,.lit (.slice none 0 0)]) Try.underlying44 zv44 pl44 (fun _ _=>.cons Y (.cons Y .nil)) (.c Y Y (cOne (oLit Y)) Y Y (.c Y Y (cOne oFsl) Y Y .nil))) Y<|sQ (dBS (c:=cConjunct) (xs:=([(⟨true,([(⟨g1.Start,(0:Int),(0:Int)⟩:Symbol)]:List Symbol)⟩:Conjunct)]:List Conjunct)) Try.underlying45 z44 Wb (.c Y cAgg .nil) Y) Y<|sQ (W6 (az:=[Ai .i64 (0:Int),.lit (.slice none 0 0)]) Try.underlying47 zv47 pl47 (fun _ _=>.cons Y (.cons Y .nil)) (.c Y Y (cOne (oLit Y)) Y Y (.c Y Y (cOne oFsl) Y Y .nil))) Y<|sQ (dBS (c:=cRule) (xs:=([(⟨(g1.Names.length:Int),([(⟨true,([(⟨g1.Start,(0:Int),(0:Int)⟩:Symbol)]:List Symbol)⟩:Conjunct)]:List Conjunct)⟩:Rule)]:List Rule)) Try.underlying28 z47 Vb (.c Y cAgg .nil) Y) Y<|cg 2 Y<|j5 fun h35=>sAp (j:=0) Try.underlying28 Vb Y Y Y Y h35 Y Y fun v36=>sQ (V1 fa30_2 Y) Y<|f7 (j:=1) z28 Y Y Y (cOne oSv) ⟨oSv,trivial⟩ Y (le_ Y)<|sES Y<|sQ (dFA fa30_1 Y) Y<|sQ (dLd g27 Y Y) Y<|sQ (z8 Try.underlying27 Y) Y<|sQ (V1 fa30_0 Y) Y<|f7 (j:=1) z3 Y Y Y (cOne (oLit Y)) ⟨(oLit Y),trivial⟩ Y (le_ Y)<|sES Y<|sQ (Ja (j:=1) g30 z30 Y Y (le_ Y)) Y<|j4 fun r39 e40=>?_
      rcases r39 with ⟨_ | x37,q38⟩
      ·refine Jd ent8 Y (j8 K _) e40 (fun _=>flTup ⟨flLit,flLit,trivial⟩) (fun _=>trivial) (.g Y (lendA (.k (.o 2 Y (.o 0 Y (.n))))) .nil) Y fun _=>sM Y Y<|sQ (dX Y Y) Y<|sQ (dX Y Y) Y<|sA Y Y<|sA Y Y<|P0<|M1<|sSR Y<|sM Y Y<|j4 fun r41 e42=>sQ (J6 ent11 (V2 K _) e42 (.s Y .nil)) Y<|sQ (dNe Y Y) Y<|P0<|V3 Y (fun h43=>?_) (fun h43=>?_)
       ·refine sSR Y<|sM Y Y<|sQ (zb Try.underlying23 Y pnNil) Y<|sA Y Y<|P0<|L2 [2,1,0] Try.func5 Try.results5 (rT Y) ⟨Y,Y⟩
       ·refine J2<|M1<|sSR Y<|sA Y Y<|P0<|Wc (j3.l0 K s2) (fun (i44:Int) (_:Unit)=>([(1,.lit (.string s2)),(5,.lit (.pointer none)),(8,.lit (.pointer none)),(10,Ai .i64 i44)]:Fr)) (fun (i44:Int) (_:Unit)=>([]:List Res)) () (fun _=>Y) [2,1,0] ⟨Y,Y,Y,Y,trivial⟩ Y ?_ ?_
        ·rintro i44 _
         refine sSR Y<|sA Y Y<|P0<|L2 [] Try.func5 Try.results5 (rT Y) ⟨Y,Y⟩
        ·rintro m i44 _ again0 out0
         refine M1<|sSR Y<|sM Y Y<|sM Y Y<|sQ (we Try.underlying9 Y) Y<|sQ (dLe Y Y) Y<|sM Y Y<|J4 (fun h45=>?_) (fun h45=>?_)
         ·refine sG 4 Y Y Y (dT h45) Y (dMv Y) Y<|sG 4 Y Y Y (dT h45) Y (dLe Y Y) Y<|sQ (L1 Y (dT h45) Y) Y<|P0<|V3 Y (fun h46=>?_) (fun h46=>?_)
          ·refine J2<|M1<|Q7<|sSR Y<|sM Y Y<|qb
          ·refine c6 Y<|M3 (out0 i44 ()) [] ⟨Y,Y,Y,Y,trivial⟩ Y
         ·refine sU 4 Y Y Y (dF h45) Y Y<|sU 4 Y Y Y (dF h45) Y Y<|sQ (J1 Y (dF h45) Y) Y<|P0<|y7 Y Y<|c6 Y<|M3 (out0 i44 ()) [] ⟨Y,Y,Y,Y,trivial⟩ Y
      ·refine Jd ent8 Y (j8 K _) e40 (fun _=>flTup ⟨flLit,flLit,trivial⟩) (fun _=>⟨floBoth_Pair _ _,trivial⟩) (.g Y (lendA (.k (.o 2 Y (.o 0 Y (.n))))) .nil) Y fun b49=>sM Y Y<|sQ (dX Y Y) Y<|sQ (dX Y Y) Y<|sA Y Y<|sA Y Y<|P0<|M1<|sSR Y<|sM Y Y<|j4 fun r50 e51=>sQ (J6 ent11 (V2 K _) e51 (.s Y .nil)) Y<|sQ (dNe Y Y) Y<|P0<|V3 Y (fun h52=>?_) (fun h52=>?_)
       ·refine sSR Y<|sM Y Y<|sQ (zb Try.underlying23 Y pnBox) Y<|sA Y Y<|P0<|L2 [3,2,1,0] Try.func5 Try.results5 (rT Y) ⟨Y,Y⟩
       ·refine J2<|M1<|sSR Y<|sA Y Y<|P0<|Wc (j3.l1 K s2) (fun (i53:Int) (_:Unit)=>([(1,.lit (.string s2)),(5,.lit (.pointer none)),(8,.lit (.pointer (some ⟨b49,0,none⟩))),(10,Ai .i64 i53)]:Fr)) (fun (i53:Int) (_:Unit)=>([oBoth_Pair b49 x37]:List Res)) () (fun _=>Y) [3,2,1] ⟨Y,Y,Y,Y,trivial⟩ Y ?_ ?_
        ·rintro i53 _
         refine sSR Y<|sA Y Y<|P0<|L2 [0] Try.func5 Try.results5 (rT Y) ⟨Y,Y⟩
        ·rintro m i53 _ again1 out1
         refine M1<|sSR Y<|sM Y Y<|sM Y Y<|sQ (we Try.underlying9 Y) Y<|sQ (dLe Y Y) Y<|sM Y Y<|J4 (fun h54=>?_) (fun h54=>?_)
         ·refine sG 4 Y Y Y (dT h54) Y (dMv Y) Y<|sG 4 Y Y Y (dT h54) Y (dLe Y Y) Y<|sQ (L1 Y (dT h54) Y) Y<|P0<|V3 Y (fun h55=>?_) (fun h55=>?_)
          ·refine J2<|M1<|Q7<|sSR Y<|sM Y Y<|qb
          ·refine c6 Y<|M3 (out1 i53 ()) [0] ⟨Y,Y,Y,Y,trivial⟩ Y
         ·refine sU 4 Y Y Y (dF h54) Y Y<|sU 4 Y Y Y (dF h54) Y Y<|sQ (J1 Y (dF h54) Y) Y<|P0<|y7 Y Y<|c6 Y<|M3 (out1 i53 ()) [0] ⟨Y,Y,Y,Y,trivial⟩ Y
  ·refine G5 [] ent8 Y (j8 K _) e9 Y (.s Y .nil) Y fun b58=>sM Y Y<|sQ (dX Y Y) Y<|sQ (dX Y Y) Y<|sA Y Y<|sA Y Y<|P0<|M1<|sSR Y<|sM Y Y<|j4 fun r59 e60=>sQ (J6 ent11 (V2 K _) e60 (.s Y .nil)) Y<|sQ (dNe Y Y) Y<|sM Y Y<|J4 (fun h61=>?_) (fun h61=>?_)
   ·refine sU 3 Y Y Y (dT h61) Y Y<|sU 3 Y Y Y (dT h61) Y Y<|sU 3 Y Y Y (dT h61) Y Y<|sU 3 Y Y Y (dT h61) Y Y<|sQ (L1 Y (dT h61) Y) Y<|sM Y Y<|sU 9 Y Y Y Y Y Y<|sU 9 Y Y Y Y Y Y<|sU 9 Y Y Y Y Y Y<|sU 9 Y Y Y Y Y Y<|sQ (L1 Y Y Y) Y<|P0<|q6 Y Y<|M1<|V9 (fun (t62:Bool) (_:Unit)=>([(4,Ab t62)]:Fr)) (fun (t62:Bool) (_:Unit)=>([]:List Res)) ?_ ?_
    ·rintro t62 _
     refine L2 [] Try.func5 Try.results5 (rT Y) ⟨Y,Y⟩
    ·intro join62
     refine V4 Y<|sM Y Y<|j4 fun r64 e65=>sQ (J6 ent11 (V2 K _) e65 (.s Y .nil)) Y<|sQ (dEq Y Y) Y<|sM Y Y<|J4 (fun h66=>?_) (fun h66=>?_)
     ·refine sU 3 Y Y Y (dT h66) Y Y<|sU 3 Y Y Y (dT h66) Y Y<|sQ (L1 Y (dT h66) Y) Y<|sA Y Y<|P0<|M3 (join62 true ()) [] ⟨Y,trivial⟩ Y
     ·refine sG 3 Y Y Y (dF h66) Y (dMv Y) Y<|sG 3 Y Y Y (dF h66) Y (zb Try.underlying23 Y pnBox) Y<|sQ (J1 Y (dF h66) Y) Y<|sA Y Y<|P0<|M3 (join62 false ()) [] ⟨Y,trivial⟩ Y
   ·refine sG 3 Y Y Y (dF h61) Y (dFA fa30_1 Y) Y<|sG 3 Y Y Y (dF h61) Y (dLd g27 Y Y) Y<|sG 3 Y Y Y (dF h61) Y (z8 Try.underlying27 Y) Y<|sG 3 Y Y Y (dF h61) Y (dGe Y Y) Y<|sQ (J1 Y (dF h61) Y) Y<|sM Y Y<|J4 (fun h67=>?_) (fun h67=>?_)
    ·refine sU 9 Y Y Y (dT h67) Y Y<|sU 9 Y Y Y (dT h67) Y Y<|sU 9 Y Y Y (dT h67) Y Y<|sU 9 Y Y Y (dT h67) Y Y<|sQ (L1 Y (dT h67) Y) Y<|P0<|q6 Y Y<|M1<|V9 (fun (t68:Bool) (_:Unit)=>([(4,Ab t68)]:Fr)) (fun (t68:Bool) (_:Unit)=>([]:List Res)) ?_ ?_
     ·rintro t68 _
      refine L2 [] Try.func5 Try.results5 (rT Y) ⟨Y,Y⟩
     ·intro join68
      refine V4 Y<|sM Y Y<|j4 fun r70 e71=>sQ (J6 ent11 (V2 K _) e71 (.s Y .nil)) Y<|sQ (dEq Y Y) Y<|sM Y Y<|J4 (fun h72=>?_) (fun h72=>?_)
      ·refine sU 3 Y Y Y (dT h72) Y Y<|sU 3 Y Y Y (dT h72) Y Y<|sQ (L1 Y (dT h72) Y) Y<|sA Y Y<|P0<|M3 (join68 true ()) [] ⟨Y,trivial⟩ Y
      ·refine sG 3 Y Y Y (dF h72) Y (dMv Y) Y<|sG 3 Y Y Y (dF h72) Y (zb Try.underlying23 Y pnBox) Y<|sQ (J1 Y (dF h72) Y) Y<|sA Y Y<|P0<|M3 (join68 false ()) [] ⟨Y,trivial⟩ Y
    ·refine sG 9 Y Y Y (dF h67) Y (dFA fa30_2 Y) Y<|sG 9 Y Y Y (dF h67) Y (dLd g28 Y Y) Y<|sG 9 Y Y Y (dF h67) Y (z8 Try.underlying28 Y) Y<|sG 9 Y Y Y (dF h67) Y (dGe Y Y) Y<|sQ (J1 Y (dF h67) Y) Y<|P0<|V3 Y (fun h73=>?_) (fun h73=>?_)
     ·refine M1<|V9 (fun (t74:Bool) (_:Unit)=>([(4,Ab t74)]:Fr)) (fun (t74:Bool) (_:Unit)=>([]:List Res)) ?_ ?_
      ·rintro t74 _
       refine L2 [] Try.func5 Try.results5 (rT Y) ⟨Y,Y⟩
      ·intro join74
       refine V4 Y<|sM Y Y<|j4 fun r76 e77=>sQ (J6 ent11 (V2 K _) e77 (.s Y .nil)) Y<|sQ (dEq Y Y) Y<|sM Y Y<|J4 (fun h78=>?_) (fun h78=>?_)
       ·refine sU 3 Y Y Y (dT h78) Y Y<|sU 3 Y Y Y (dT h78) Y Y<|sQ (L1 Y (dT h78) Y) Y<|sA Y Y<|P0<|M3 (join74 true ()) [] ⟨Y,trivial⟩ Y
       ·refine sG 3 Y Y Y (dF h78) Y (dMv Y) Y<|sG 3 Y Y Y (dF h78) Y (zb Try.underlying23 Y pnBox) Y<|sQ (J1 Y (dF h78) Y) Y<|sA Y Y<|P0<|M3 (join74 false ()) [] ⟨Y,trivial⟩ Y
     ·refine J2<|sSR Y<|sQ (pa g30 z30 Y (le_ Y)) Y<|j4 fun r79 e80=>G5 [] ent14 Y (y9 K _) e80 Y (.s Y .nil) Y fun ⟨v81,v82,us83⟩=>L6 (az:=[Ai .i64 (0:Int),.lit (.slice none 0 0),.lit (.slice none 0 0)]) al30 (fun _ _=>.cons Y (.cons Y (.cons Y .nil))) Y fun b84=>f7 (j:=0) z30 Y Y Y cAgg ⟨(oLit Y),oSv,oSv,trivial⟩ Y (le_ Y)<|sES Y<|sQ (V1 fa30_1 Y) Y<|sQ (J3 (j:=0) g27 Y Y Y) Y<|sQ (dBS (c:=cS) (xs:=([(⟨#[110,48,116]⟩:ByteArray)]:List ByteArray)) Try.underlying27 z9 gb (.c Y (cOne (oLit Y)) .nil) Y) Y<|j5 fun h85=>sAp (j:=1) Try.underlying27 gb Y Y Y Y h85 Y Y fun v86=>sQ (V1 fa30_1 Y) Y<|f7 (j:=0) z27 Y Y Y (cOne oSv) ⟨oSv,trivial⟩ Y (le_ Y)<|sES Y<|sQ (V1 fa30_2 Y) Y<|sQ (J3 (j:=0) g28 Y Y Y) Y<|sQ (dFA fa30_1 Y) Y<|sQ (dLd g27 Y Y) Y<|sQ (z8 Try.underlying27 Y) Y<|sQ (dFA fa30_0 Y) Y<|sQ (dLd g3 Y Y) Y<|sQ (W6 (az:=[Ai .i64 (0:Int),Ai .i64 (0:Int),Ai .i64 (0:Int)]) Try.underlying41 zv41 pl41 (fun _ _=>.cons Y (.cons Y (.cons Y .nil))) (.c Y Y (cOne (oLit Y)) Y Y .nil)) Y<|sQ (dBS (c:=cSymbol) (xs:=([(⟨g1.Start,(0:Int),(0:Int)⟩:Symbol)]:List Symbol)) Try.underlying42 z41 Pc (.c Y cAgg .nil) Y) Y<|sQ (W6 (az:=[Ab false,.lit (.slice none 0 0)]) Try.underlying44 zv44 pl44 (fun _ _=>.cons Y (.cons Y .nil)) (.c Y Y (cOne (oLit Y)) Y Y (.c Y Y (cOne oFsl) Y Y .nil))) Y<|sQ (dBS (c:=cConjunct) (xs:=([(⟨true,([(⟨g1.Start,(0:Int),(0:Int)⟩:Symbol)]:List Symbol)⟩:Conjunct)]:List Conjunct)) Try.underlying45 z44 Wb (.c Y cAgg .nil) Y) Y<|sQ (W6 (az:=[Ai .i64 (0:Int),.lit (.slice none 0 0)]) Try.underlying47 zv47 pl47 (fun _ _=>.cons Y (.cons Y .nil)) (.c Y Y (cOne (oLit Y)) Y Y (.c Y Y (cOne oFsl) Y Y .nil))) Y<|sQ (dBS (c:=cRule) (xs:=([(⟨(g1.Names.length:Int),([(⟨true,([(⟨g1.Start,(0:Int),(0:Int)⟩:Symbol)]:List Symbol)⟩:Conjunct)]:List Conjunct)⟩:Rule)]:List Rule)) Try.underlying28 z47 Vb (.c Y cAgg .nil) Y) Y<|cg 2 Y<|j5 fun h87=>sAp (j:=0) Try.underlying28 Vb Y Y Y Y h87 Y Y fun v88=>sQ (V1 fa30_2 Y) Y<|f7 (j:=1) z28 Y Y Y (cOne oSv) ⟨oSv,trivial⟩ Y (le_ Y)<|sES Y<|sQ (dFA fa30_1 Y) Y<|sQ (dLd g27 Y Y) Y<|sQ (z8 Try.underlying27 Y) Y<|sQ (V1 fa30_0 Y) Y<|f7 (j:=1) z3 Y Y Y (cOne (oLit Y)) ⟨(oLit Y),trivial⟩ Y (le_ Y)<|sES Y<|sQ (Ja (j:=1) g30 z30 Y Y (le_ Y)) Y<|j4 fun r91 e92=>?_
      rcases r91 with ⟨_ | x89,q90⟩
      ·refine Jd ent8 Y (j8 K _) e92 (fun _=>flTup ⟨flLit,flLit,trivial⟩) (fun _=>trivial) (.g Y (lendA (.k (.o 2 Y (.o 0 Y (.n))))) .nil) Y fun _=>sM Y Y<|sQ (dX Y Y) Y<|sQ (dX Y Y) Y<|sA Y Y<|sA Y Y<|P0<|M1<|sSR Y<|sM Y Y<|j4 fun r93 e94=>sQ (J6 ent11 (V2 K _) e94 (.s Y .nil)) Y<|sQ (dNe Y Y) Y<|P0<|V3 Y (fun h95=>?_) (fun h95=>?_)
       ·refine sSR Y<|sM Y Y<|sQ (zb Try.underlying23 Y pnNil) Y<|sA Y Y<|P0<|L2 [3,2,1,0] Try.func5 Try.results5 (rT Y) ⟨Y,Y⟩
       ·refine J2<|M1<|sSR Y<|sA Y Y<|P0<|Wc (j3.l2 K s2 x6) (fun (i96:Int) (_:Unit)=>([(1,.lit (.string s2)),(5,.lit (.pointer (some ⟨b58,0,none⟩))),(8,.lit (.pointer none)),(10,Ai .i64 i96)]:Fr)) (fun (i96:Int) (_:Unit)=>([oBoth_Pair b58 x6]:List Res)) () (fun _=>Y) [2,1,0] ⟨Y,Y,Y,Y,trivial⟩ Y ?_ ?_
        ·rintro i96 _
         refine sSR Y<|sA Y Y<|P0<|L2 [0] Try.func5 Try.results5 (rT Y) ⟨Y,Y⟩
        ·rintro m i96 _ again2 out2
         refine M1<|sSR Y<|sM Y Y<|sM Y Y<|sQ (we Try.underlying9 Y) Y<|sQ (dLe Y Y) Y<|sM Y Y<|J4 (fun h97=>?_) (fun h97=>?_)
         ·refine sG 4 Y Y Y (dT h97) Y (dMv Y) Y<|sG 4 Y Y Y (dT h97) Y (dLe Y Y) Y<|sQ (L1 Y (dT h97) Y) Y<|P0<|V3 Y (fun h98=>?_) (fun h98=>?_)
          ·refine J2<|M1<|Q7<|sSR Y<|sM Y Y<|j4 fun r99 e100=>G5 [0] ent13 Y (z7 K _ _ _) e100 Y (.s Y<|.s Y .nil) Y fun _=>sM Y Y<|sQ (dX Y Y) Y<|sQ (dX Y Y) Y<|sA Y Y<|sA Y Y<|sES Y<|sM Y Y<|qb
          ·refine c6 Y<|M3 (out2 i96 ()) [0] ⟨Y,Y,Y,Y,trivial⟩ Y
         ·refine sU 4 Y Y Y (dF h97) Y Y<|sU 4 Y Y Y (dF h97) Y Y<|sQ (J1 Y (dF h97) Y) Y<|P0<|y7 Y Y<|c6 Y<|M3 (out2 i96 ()) [0] ⟨Y,Y,Y,Y,trivial⟩ Y
      ·refine Jd ent8 Y (j8 K _) e92 (fun _=>flTup ⟨flLit,flLit,trivial⟩) (fun _=>⟨floBoth_Pair _ _,trivial⟩) (.g Y (lendA (.k (.o 2 Y (.o 0 Y (.n))))) .nil) Y fun b103=>sM Y Y<|sQ (dX Y Y) Y<|sQ (dX Y Y) Y<|sA Y Y<|sA Y Y<|P0<|M1<|sSR Y<|sM Y Y<|j4 fun r104 e105=>sQ (J6 ent11 (V2 K _) e105 (.s Y .nil)) Y<|sQ (dNe Y Y) Y<|P0<|V3 Y (fun h106=>?_) (fun h106=>?_)
       ·refine sSR Y<|sM Y Y<|sQ (zb Try.underlying23 Y pnBox) Y<|sA Y Y<|P0<|L2 [4,3,2,1,0] Try.func5 Try.results5 (rT Y) ⟨Y,Y⟩
       ·refine J2<|M1<|sSR Y<|sA Y Y<|P0<|Wc (j3.l3 K s2) (fun ((xs107,xs108,i109):(Q2×Q2×Int)) (_:Unit)=>([(1,.lit (.string s2)),(5,.lit (.pointer (some ⟨b58,0,none⟩))),(8,.lit (.pointer (some ⟨b103,0,none⟩))),(10,Ai .i64 i109)]:Fr)) (fun ((xs107,xs108,i109):(Q2×Q2×Int)) (_:Unit)=>([oBoth_Pair b103 xs107,oBoth_Pair b58 xs108]:List Res)) () (fun _=>Y) [3,2,1] ⟨Y,Y,Y,Y,trivial⟩ Y ?_ ?_
        ·rintro ⟨xs107,xs108,i109⟩ _
         refine sSR Y<|sA Y Y<|P0<|L2 [1,0] Try.func5 Try.results5 (rT Y) ⟨Y,Y⟩
        ·rintro m ⟨xs107,xs108,i109⟩ _ again3 out3
         refine M1<|sSR Y<|sM Y Y<|sM Y Y<|sQ (we Try.underlying9 Y) Y<|sQ (dLe Y Y) Y<|sM Y Y<|J4 (fun h110=>?_) (fun h110=>?_)
         ·refine sG 4 Y Y Y (dT h110) Y (dMv Y) Y<|sG 4 Y Y Y (dT h110) Y (dLe Y Y) Y<|sQ (L1 Y (dT h110) Y) Y<|P0<|V3 Y (fun h111=>?_) (fun h111=>?_)
          ·refine J2<|M1<|Q7<|sSR Y<|sM Y Y<|j4 fun r112 e113=>G5 [1] ent13 Y (z7 K _ _ _) e113 Y (.s Y<|.s Y .nil) Y fun _=>sM Y Y<|sQ (dX Y Y) Y<|sQ (dX Y Y) Y<|sA Y Y<|sA Y Y<|sES Y<|sM Y Y<|j4 fun r114 e115=>G5 [1] ent13 Y (z7 K _ _ _) e115 Y (.s Y<|.s Y .nil) Y fun _=>sM Y Y<|sQ (dX Y Y) Y<|sQ (dX Y Y) Y<|sA Y Y<|sA Y Y<|P0<|M1<|sSR Y<|sM Y Y<|j4 fun r116 e117=>sQ (J6 ent11 (V2 K _) e117 (.s Y .nil)) Y<|sQ (dNe Y Y) Y<|sM Y Y<|J4 (fun h118=>?_) (fun h118=>?_)
           ·refine sU 3 Y Y Y (dT h118) Y Y<|sU 3 Y Y Y (dT h118) Y Y<|sU 3 Y Y Y (dT h118) Y Y<|sQ (L1 Y (dT h118) Y) Y<|sM Y Y<|sU 8 Y Y Y Y Y Y<|sU 8 Y Y Y Y Y Y<|sU 8 Y Y Y Y Y Y<|sQ (L1 Y Y Y) Y<|P0<|q6 Y Y<|sSR Y<|sA Y Y<|P0<|Va<|L2 [1,0] Try.func5 Try.results5 (rT Y) ⟨Y,Y⟩
           ·refine sG 3 Y Y Y (dF h118) Y (dMv Y) Y<|j4 fun r119 e120=>sG 3 Y Y Y (dF h118) Y (J6 ent11 (V2 K _) e120 (.s Y .nil)) Y<|sG 3 Y Y Y (dF h118) Y (dNe Y Y) Y<|sQ (J1 Y (dF h118) Y) Y<|sM Y Y<|J4 (fun h121=>?_) (fun h121=>?_)
            ·refine sU 8 Y Y Y (dT h121) Y Y<|sU 8 Y Y Y (dT h121) Y Y<|sU 8 Y Y Y (dT h121) Y Y<|sQ (L1 Y (dT h121) Y) Y<|P0<|q6 Y Y<|sSR Y<|sA Y Y<|P0<|Va<|L2 [1,0] Try.func5 Try.results5 (rT Y) ⟨Y,Y⟩
            ·refine sG 8 Y Y Y (dF h121) Y (dMv Y) Y<|sG 8 Y Y Y (dF h121) Y (dMv Y) Y<|sG 8 Y Y Y (dF h121) Y (kh Try.underlying4 Y Y) Y<|sQ (J1 Y (dF h121) Y) Y<|P0<|V3 Y (fun h122=>?_) (fun h122=>?_)
             ·refine sSR Y<|sA Y Y<|P0<|Va<|L2 [1,0] Try.func5 Try.results5 (rT Y) ⟨Y,Y⟩
             ·refine J2<|sSR Y<|sM Y Y<|sM Y Y<|sQ (we Try.underlying9 Y) Y<|sQ (dLt Y Y) Y<|sM Y Y<|J4 (fun h123=>?_) (fun h123=>?_)
              ·refine sG 4 Y Y Y (dT h123) Y (dMv Y) Y<|sG 4 Y Y Y (dT h123) Y (dLt Y Y) Y<|sQ (L1 Y (dT h123) Y) Y<|P0<|V3 Y (fun h124=>?_) (fun h124=>?_)
               ·refine sSR Y<|sM Y Y<|sM Y Y<|sM Y Y<|j5 fun h125=>sQ (wh Try.underlying9 Y Y h125 h123) Y<|sQ (za Try.underlying5 Try.underlying3 Y) Y<|j4 fun r126 e127=>G5 [1] ent10 Y (c9 K _ _ _) e127 Y (.s Y<|.s Y .nil) Y fun _=>P0<|V4 Y<|sM Y Y<|sM Y Y<|sM Y Y<|sQ (wh Try.underlying9 Y Y h125 h123) Y<|sQ (za Try.underlying5 Try.underlying3 Y) Y<|j4 fun r128 e129=>G5 [1] ent10 Y (c9 K _ _ _) e129 Y (.s Y<|.s Y .nil) Y fun _=>P0<|M2<|V4 Y<|sM Y Y<|sQ (z6 Y Y) Y<|sA Y Y<|P0<|M3 (again3 (r128.2,r126.2,IntKind.wrap .i64 (i109+1)) ()) [0,0] ⟨Y,Y,Y,Y,trivial⟩ Y
               ·refine J2<|M2<|V4 Y<|sM Y Y<|sQ (z6 Y Y) Y<|sA Y Y<|P0<|M3 (again3 (r114.2.2,r112.2.2,IntKind.wrap .i64 (i109+1)) ()) [0,0] ⟨Y,Y,Y,Y,trivial⟩ Y
              ·refine sU 4 Y Y Y (dF h123) Y Y<|sU 4 Y Y Y (dF h123) Y Y<|sQ (J1 Y (dF h123) Y) Y<|P0<|y7 Y Y<|J2<|M2<|V4 Y<|sM Y Y<|sQ (z6 Y Y) Y<|sA Y Y<|P0<|M3 (again3 (r114.2.2,r112.2.2,IntKind.wrap .i64 (i109+1)) ()) [0,0] ⟨Y,Y,Y,Y,trivial⟩ Y
          ·refine c6 Y<|M3 (out3 (xs107,xs108,i109) ()) [0,0] ⟨Y,Y,Y,Y,trivial⟩ Y
         ·refine sU 4 Y Y Y (dF h110) Y Y<|sU 4 Y Y Y (dF h110) Y Y<|sQ (J1 Y (dF h110) Y) Y<|P0<|y7 Y Y<|c6 Y<|M3 (out3 (xs107,xs108,i109) ()) [0,0] ⟨Y,Y,Y,Y,trivial⟩ Y
def j6.l0 (K:Nat) (a2:ByteArray):Nat→Int→Option (Int ⊕ Bool)
 | 0,_=>none
 | m+1,i21=>if i21<(a2.size:Int) then if i21<8 then if 0≤i21 then none else none else some (.inl i21) else some (.inl i21)
def j6.l1 (K:Nat) (a2:ByteArray):Nat→Int→Option (Int ⊕ Bool)
 | 0,_=>none
 | m+1,i34=>if i34<(a2.size:Int) then if i34<8 then if 0≤i34 then none else none else some (.inl i34) else some (.inl i34)
def j6.l2 (K:Nat) (a2:ByteArray) (bad3:(List Int)) (x7:Q2):Nat→Int→Option (Int ⊕ Bool)
 | 0,_=>none
 | m+1,i51=>if i51<(a2.size:Int) then if i51<8 then if 0≤i51 then (y6 K x7 (IntKind.wrap .i64 (bt a2 i51))).bind fun r55=>if i51<(bad3.length:Int) then none else none else none else some (.inl i51) else some (.inl i51)
def j6.l3 (K:Nat) (a2:ByteArray) (bad3:(List Int)):Nat→(Q2×Q2×Int)→Option ((Q2×Q2×Int) ⊕ Bool)
 | 0,_=>none
 | m+1,(xs67,xs68,i69)=>if i69<(a2.size:Int) then if i69<8 then if 0≤i69 then (y6 K xs68 (IntKind.wrap .i64 (bt a2 i69))).bind fun r73=>brk (if i69<(bad3.length:Int) then (y6 K xs67 (IntKind.wrap .i64 (256+(iand .i64 (rd bad3 i69) 1023)))).bind fun r78=>(L4 K r78.2 (IntKind.wrap .i64 (4+(iand .i64 (rd bad3 i69) 1023)))).bind fun r80=>(P1 K r78.1).bind fun r82=>if r82≠1700 then some (.inr (.inr false)) else (P1 K r80.2.1).bind fun r85=>if r85≠1702 then some (.inr (.inr false)) else some (.inl r80.2.2) else some (.inl xs67)) fun xs75=>(y6 K xs75 (IntKind.wrap .i64 (bt a2 i69))).bind fun r88=>(L4 K r73.2 2).bind fun r90=>(L4 K r88.2 2).bind fun r92=>(P1 K r73.1).bind fun r94=>if r94≠0 then some (.inr false) else (P1 K r88.1).bind fun r97=>if r97≠0 then some (.inr false) else if r90.1≠r92.1 then some (.inr false) else (P1 K r90.2.1).bind fun r101=>if r101≠0 then some (.inr false) else (P1 K r92.2.1).bind fun r104=>if r104≠0 then some (.inr false) else (m8 K r90.2.2).bind fun r107=>(m8 K r92.2.2).bind fun r109=>if r107.1≠r109.1 then some (.inr false) else j6.l3 K a2 bad3 m (r109.2,r107.2,IntKind.wrap .i64 (i69+1)) else none else some (.inl (xs67,xs68,i69)) else some (.inl (xs67,xs68,i69))
def j6 (K:Nat) (g1:Grammar) (a2:ByteArray) (bad3:(List Int)):Option Bool:=(M7 K).bind fun r4=>if (!r4)=true then some false else (P7 K g1).bind fun r9=>(match r9 with | (none,q8)=>(P7 K g1).bind fun r13=>(match r13 with | (none,q12)=>(P1 K q8).bind fun r15=>if r15≠0 then some true else (P1 K q12).bind fun r18=>if r18≠0 then some true else brk (j6.l0 K a2 K 0) fun i21=>some true | (some x11,q12)=>(P1 K q8).bind fun r28=>if r28≠0 then some false else (P1 K q12).bind fun r31=>if r31≠0 then some false else brk (j6.l1 K a2 K 0) fun i34=>some true) | (some x7,q8)=>(P7 K g1).bind fun r43=>(match r43 with | (none,q42)=>(P1 K q8).bind fun r45=>if r45≠0 then some false else (P1 K q42).bind fun r48=>if r48≠0 then some false else brk (j6.l2 K a2 bad3 x7 K 0) fun i51=>some true | (some x41,q42)=>(P1 K q8).bind fun r61=>if r61≠0 then some false else (P1 K q42).bind fun r64=>if r64≠0 then some false else brk (j6.l3 K a2 bad3 K (x41,x7,0)) fun (xs67,xs68,i69)=>some true))
def firstOf {ρ:Type} (B:Nat→Option ρ):Nat→Nat→Option ρ
 | 0,_=>none
 | k+1,i=>match B i with | some r=>some r | none=>firstOf B k (i+1)
theorem firstOf_some {ρ:Type} {B:Nat→Option ρ} {r:ρ}:∀ {k i:Nat},firstOf B k i=some r→∃ j,i≤j∧j<i+k∧B j=some r∧∀ q,i≤q→q<j→B q=none
 | 0,i,h=>by cases h
 | k+1,i,h=>by
  unfold firstOf at h
  split at h
  ·rename_i hb;cases h;exact ⟨i,Nat.le_refl _,by omega,hb,fun q h1 h2=>by omega⟩
  ·rename_i hb
   obtain ⟨j,h1,h2,h3,h4⟩:=firstOf_some h
   exact ⟨j,by omega,by omega,h3,fun q q1 q2=>by
    rcases Nat.eq_or_lt_of_le q1 with rfl | q1
    ·exact hb
    ·exact h4 q (by omega) q2⟩
theorem scan {ρ:Type} (n:Nat) (L:Nat→Int→Option (Int ⊕ ρ)) (B:Nat→Option ρ)
  (step:∀ m i,i<n→L (m+1) (i:Int)=match B i with | some r=>some (.inr r) | none=>L m ((i:Int)+1))
  (stop:∀ m,L (m+1) (n:Int)=some (.inl (n:Int))):∀ k i m,i+k=n→k<m→L m (i:Int)=some (match firstOf B k i with | some r=>.inr r | none=>.inl (n:Int)):=by
 intro k
 induction k with
 | zero =>
  intro i m hi hm
  obtain ⟨m,rfl⟩:∃ q,m=q+1:=⟨m-1,by omega⟩
  have:i=n:=by omega
  subst this
  exact stop m
 | succ k ih =>
  intro i m hi hm
  obtain ⟨m,rfl⟩:∃ q,m=q+1:=⟨m-1,by omega⟩
  rw [step m i (by omega)]
  unfold firstOf
  cases B i with
  | some r=>rfl
  | none=>simpa using ih (i+1) m (by omega) (by omega)
theorem scanS {ρ τ:Type} (n:Nat) (L:Nat→τ×Int→Option ((τ×Int) ⊕ ρ)) (B:τ→Nat→τ ⊕ ρ)
  (step:∀ m s i,i<n→L (m+1) (s,(i:Int))=match B s i with | .inr r=>some (.inr r) | .inl s'=>L m (s',(i:Int)+1))
  (stop:∀ m s,L (m+1) (s,(n:Int))=some (.inl (s,(n:Int)))) (I:Nat→τ→Prop) (hI:∀ s i,i<n→I i s→∀ s',B s i = .inl s'→I (i+1) s') :
  ∀ k i s m,i+k=n→k<m→I i s→(∃ s',L m (s,(i:Int))=some (.inl (s',(n:Int)))∧I n s')∨∃ r j s',L m (s,(i:Int))=some (.inr r)∧i≤j∧j<n∧I j s'∧B s' j = .inr r:=by
 intro k
 induction k with
 | zero =>
  intro i s m hi hm h
  obtain ⟨m,rfl⟩:∃ q,m=q+1:=⟨m-1,by omega⟩
  have:i=n:=by omega
  subst this
  exact .inl ⟨s,stop m s,h⟩
 | succ k ih =>
  intro i s m hi hm h
  obtain ⟨m,rfl⟩:∃ q,m=q+1:=⟨m-1,by omega⟩
  rw [step m s i (by omega)]
  cases hb:B s i with
  | inr r=>exact .inr ⟨r,i,s,rfl,Nat.le_refl _,by omega,h,hb⟩
  | inl s' =>
   rcases ih (i+1) s' m (by omega) (by omega) (hI s i (by omega) h s' hb) with ⟨s2,h1,h2⟩ | ⟨r,j,s2,h1,h2,h3,h4,h5⟩
   ·exact .inl ⟨s2,by simpa using h1,h2⟩
   ·exact .inr ⟨r,j,s2,by simpa using h1,by omega,h3,h4,h5⟩
set_option linter.unusedSimpArgs false
theorem letter_some (K:Nat) (c:Int):∃ b,P9 K c=some b:=by
 unfold P9
 repeat' split
 all_goals exact ⟨_,rfl⟩
theorem more_some (K:Nat) (c:Int):∃ b,pb K c=some b:=by
 obtain ⟨b,hb⟩:=letter_some K c
 unfold pb
 rw [hb,Option.bind_some]
 repeat' split
 all_goals exact ⟨_,rfl⟩
theorem lexName_some (K:Nat) (hK:1000≤K) (s:ByteArray):∃ b,f8 K s=some b:=by
 unfold f8
 by_cases h1:s=(⟨#[]⟩:ByteArray)
 ·rw [if_pos h1];exact ⟨_,rfl⟩
 rw [if_neg h1]
 by_cases h2:32<(s.size:Int)
 ·rw [if_pos h2];exact ⟨_,rfl⟩
 rw [if_neg h2]
 split
 ·exact ⟨_,rfl⟩
 have h0:0<(s.size:Int):=by
  rcases Nat.eq_zero_or_pos s.size with h | h
  ·exfalso;apply h1
   apply ByteArray.ext
   exact Array.eq_empty_of_size_eq_zero h
  ·omega
 rw [if_pos h0]
 obtain ⟨b,hb⟩:=letter_some K (bt s 0)
 rw [hb,Option.bind_some]
 split
 ·exact ⟨_,rfl⟩
 have:=scan s.size (f8.l0 K s) (fun i=>if (!((pb K (bt s (i:Int))).getD false))=true then some false else none) (fun m i hi=>by
  obtain ⟨q,hq⟩:=more_some K (bt s (i:Int))
  simp only [f8.l0]
  rw [if_pos (by omega),if_pos (Int.natCast_nonneg i),hq,Option.bind_some,Option.getD_some,wr (a:=(i:Int)+1) (by omega) (by omega)]
  cases q <;> rfl) (fun m=>by simp only [f8.l0];rw [if_neg (by omega)]) s.size 0 K (by omega) (by omega)
 rw [show ((0:Nat):Int)=0 from rfl] at this
 rw [this]
 split <;> exact ⟨_,rfl⟩
theorem names_some (K:Nat) (hK:1000≤K) (ns:List ByteArray):∃ b,m7 K ns=some b:=by
 unfold m7
 split
 ·exact ⟨_,rfl⟩
 split
 ·exact ⟨_,rfl⟩
 have hex:∀ i:Int,∃ b,f8 K (rd ns i)=some b:=fun i=>lexName_some K hK _
 have hs:=scanS ns.length (m7.l0 K ns) (fun es i=>if (!((f8 K (rd ns (i:Int))).getD false))=true then .inr false else if (mgetD false es (rd ns (i:Int)))=true then .inr false else .inl (mput es (rd ns (i:Int)) true)) (fun m s i hi=>by
  obtain ⟨b,hb⟩:=hex i
  simp only [m7.l0]
  rw [if_pos (by omega),if_pos (Int.natCast_nonneg i),hb,Option.bind_some,Option.getD_some,wr (a:=(i:Int)+1) (by omega) (by omega)]
  cases b
  ·rfl
  ·simp only [Bool.not_true,Bool.false_eq_true,if_false]
   split <;> rfl) (fun m s=>by simp only [m7.l0];rw [if_neg (by omega)]) (fun _ _=>True) (fun _ _ _ _ _ _=>trivial) ns.length 0 [] K (by omega) (by omega) trivial
 rw [show ((0:Nat):Int)=0 from rfl] at hs
 rcases hs with ⟨s',h,_⟩ | ⟨r,j,s',h,_⟩ <;> rw [h] <;> exact ⟨_,rfl⟩
theorem symbol_some (K:Nat) (s:Symbol) (n:Int):∃ b,m9 K s n=some b:=by
 unfold m9
 repeat' split
 all_goals exact ⟨_,rfl⟩
def RuleBd (r:Rule):Prop:=r.Conj.length≤8∧∀ c ∈ r.Conj,c.Seq.length≤64
theorem rule_some (K:Nat) (hK:1000≤K) (r:Rule) (n:Int):∃ q,Q5 K r n=some q∧0≤q.1∧q.1≤512∧(q.2=true→RuleBd r):=by
 unfold Q5
 split
 ·exact ⟨_,rfl,by decide,by decide,fun h=>by cases h⟩
 split
 ·exact ⟨_,rfl,by decide,by decide,fun h=>by cases h⟩
 have hin:∀ i:Int,(rd r.Conj i).Seq.length≤64→∃ q,Q5.l1 K r n i K 0=some q∧(q = .inl ((rd r.Conj i).Seq.length:Int)∨q = .inr (.inr (0,false))):=fun i hi=>by
  have:=scan (rd r.Conj i).Seq.length (Q5.l1 K r n i) (fun j=>if (!((m9 K (⟨(rd ((rd r.Conj i).Seq) (j:Int)).Name,(rd ((rd r.Conj i).Seq) (j:Int)).Lo,(rd ((rd r.Conj i).Seq) (j:Int)).Hi⟩:Symbol) n).getD false))=true then some (.inr (0,false)) else none) (fun m j hj=>by
   obtain ⟨b,hb⟩:=symbol_some K (⟨(rd ((rd r.Conj i).Seq) (j:Int)).Name,(rd ((rd r.Conj i).Seq) (j:Int)).Lo,(rd ((rd r.Conj i).Seq) (j:Int)).Hi⟩:Symbol) n
   simp only [Q5.l1]
   rw [if_pos (by omega),if_pos (Int.natCast_nonneg j),hb,Option.bind_some,Option.getD_some,wr (a:=(j:Int)+1) (by omega) (by omega)]
   cases b <;> rfl) (fun m=>by simp only [Q5.l1];rw [if_neg (by omega)]) (rd r.Conj i).Seq.length 0 K (by omega) (by omega)
  rw [show ((0:Nat):Int)=0 from rfl] at this
  rw [this]
  split
  ·rename_i hq
   obtain ⟨j,_,_,h3,_⟩:=firstOf_some hq
   split at h3
   ·cases h3;exact ⟨_,rfl,.inr rfl⟩
   ·cases h3
  ·exact ⟨_,rfl,.inl rfl⟩
 have hs:=scanS r.Conj.length (Q5.l0 K r n) (fun s i=>if 64<(((rd r.Conj (i:Int)).Seq).length:Int) then .inr (0,false) else match Q5.l1 K r n (i:Int) K 0 with | some (.inl _)=>.inl (IntKind.wrap .i64 (s+(((rd r.Conj (i:Int)).Seq).length:Int))) | _=>.inr (0,false)) (fun m s i hi=>by
  simp only [Q5.l0]
  rw [if_pos (by omega),if_pos (Int.natCast_nonneg i),wr (a:=(i:Int)+1) (by omega) (by omega)]
  split
  ·rfl
  ·rename_i h64
   obtain ⟨q,h1,h2⟩:=hin i (by omega)
   rw [h1]
   rcases h2 with rfl | rfl <;> rfl) (fun m s=>by simp only [Q5.l0];rw [if_neg (by omega)])
  (fun i s=>0≤s∧s≤64*i∧∀ j:Nat,j<i→(rd r.Conj (j:Int)).Seq.length≤64) (fun s i hi hI s' h=>by
   split at h
   ·cases h
   ·rename_i h64
    obtain ⟨q,h1,h2⟩:=hin i (by omega)
    rw [h1] at h
    rcases h2 with rfl | rfl
    ·simp only [Sum.inl.injEq] at h
     rw [wr (by omega) (by omega)] at h
     subst h
     refine ⟨by omega,by push_cast;omega,fun j hj=>?_⟩
     rcases Nat.lt_succ_iff_lt_or_eq.1 hj with hj | rfl
     ·exact hI.2.2 j hj
     ·omega
    ·cases h) r.Conj.length 0 0 K (by omega) (by omega) ⟨by omega,by omega,fun j hj=>by omega⟩
 rw [show ((0:Nat):Int)=0 from rfl] at hs
 rcases hs with ⟨s',h,h1,h2,h3⟩ | ⟨q,j,s',h,_,hj,_,hq⟩
 ·rw [h]
  refine ⟨_,rfl,h1,by omega,fun _=>⟨by omega,fun c hc=>?_⟩⟩
  obtain ⟨j,hj,rfl⟩:=List.getElem_of_mem hc
  have:=h3 j hj
  rwa [rd_nat,List.getD_eq_getElem?_getD,List.getElem?_eq_getElem hj] at this
 ·rw [h]
  have:q=(0,false):=by
   split at hq
   ·cases hq;rfl
   ·split at hq
    ·cases hq
    ·cases hq;rfl
  subst this
  exact ⟨_,rfl,by decide,by decide,fun h=>by cases h⟩
def Bd (g:Grammar):Prop:=g.Rules.length≤256∧∀ r ∈ g.Rules,RuleBd r
theorem May_some (K:Nat) (hK:1000≤K) (g:Grammar):∃ b,G6 K g=some b∧(b=true→Bd g):=by
 unfold G6
 obtain ⟨b,hb⟩:=names_some K hK g.Names
 rw [hb,Option.bind_some]
 split
 ·exact ⟨_,rfl,fun h=>by cases h⟩
 split
 ·exact ⟨_,rfl,fun h=>by cases h⟩
 split
 ·exact ⟨_,rfl,fun h=>by cases h⟩
 split
 ·exact ⟨_,rfl,fun h=>by cases h⟩
 split
 ·exact ⟨_,rfl,fun h=>by cases h⟩
 have hex:∀ i:Int,∃ q,Q5 K (rd g.Rules i) (g.Names.length:Int)=some q∧0≤q.1∧q.1≤512∧(q.2=true→RuleBd (rd g.Rules i)):=fun i=>rule_some K hK _ _
 have hs:=scanS (τ:=Int×Int) g.Rules.length (fun m s=>(G6.l0 K g m (s.1.1,s.1.2,s.2)).map fun | .inl (a,b,c)=>.inl ((a,b),c) | .inr r=>.inr r)
  (fun s i=>match Q5 K (rd g.Rules (i:Int)) (g.Names.length:Int) with
   | some q=>if (!q.2)=true then .inr false else if (rd g.Rules (i:Int)).Head<s.1 then .inr false else if IntKind.wrap .i64 (s.1+1)<(rd g.Rules (i:Int)).Head then .inr false else if 1024<IntKind.wrap .i64 (s.2+q.1) then .inr false else .inl ((rd g.Rules (i:Int)).Head,IntKind.wrap .i64 (s.2+q.1))
   | none=>.inr false) (fun m s i hi=>by
  obtain ⟨q,h1,h2,h3,h4⟩:=hex i
  simp only [G6.l0]
  rw [if_pos (by omega),if_pos (Int.natCast_nonneg i),h1,Option.bind_some,wr (a:=(i:Int)+1) (by omega) (by omega)]
  simp only
  split
  ·rfl
  split
  ·rfl
  split
  ·rfl
  split
  ·rfl
  rfl) (fun m s=>by simp only [G6.l0];rw [if_neg (by omega)];rfl)
  (fun i s=>∀ j:Nat,j<i→RuleBd (rd g.Rules (j:Int))) (fun s i hi hI s' h=>by
   obtain ⟨q,h1,h2,h3,h4⟩:=hex i
   rw [h1] at h
   simp only at h
   split at h
   ·cases h
   ·rename_i hq
    intro j hj
    rcases Nat.lt_succ_iff_lt_or_eq.1 hj with hj | rfl
    ·exact hI j hj
    ·exact h4 (by cases hq2:q.2 <;> simp_all)) g.Rules.length 0 (-1,0) K (by omega) (by omega) (fun j hj=>by omega)
 simp only [show ((0:Nat):Int)=0 from rfl] at hs
 have hfin:∀ r,(G6.l0 K g K (-1,0,0)).map (fun | .inl (a,b,c)=>(.inl ((a,b),c):((Int×Int)×Int) ⊕ Bool) | .inr r=>.inr r)=some r→(∃ a b c,G6.l0 K g K (-1,0,0)=some (.inl (a,b,c))∧r = .inl ((a,b),c))∨∃ q,G6.l0 K g K (-1,0,0)=some (.inr q)∧r = .inr q:=by
  intro r h
  cases hl:G6.l0 K g K (-1,0,0) with
  | none=>rw [hl] at h;cases h
  | some x =>
   rw [hl] at h
   cases x with
   | inl x=>obtain ⟨a,b,c⟩:=x;cases h;exact .inl ⟨a,b,c,rfl,rfl⟩
   | inr q=>cases h;exact .inr ⟨q,rfl,rfl⟩
 have hpos:0<(g.Rules.length:Int):=by omega
 rcases hs with ⟨s',h,h3⟩ | ⟨q,j,s',h,_,hj,_,hq⟩
 ·rcases hfin _ h with ⟨a,b,c,h1,h2⟩ | ⟨q,h1,h2⟩
  ·rw [h1]
   simp only [brk,Option.bind_some]
   rw [if_pos hpos]
   have hbd:Bd g:=⟨by omega,fun r hr=>by
    obtain ⟨j,hj,rfl⟩:=List.getElem_of_mem hr
    have:=h3 j hj
    rwa [rd_nat,List.getD_eq_getElem?_getD,List.getElem?_eq_getElem hj] at this⟩
   split
   ·exact ⟨_,rfl,fun _=>hbd⟩
   ·exact ⟨_,rfl,fun h=>by cases h⟩
  ·cases h2
 ·rcases hfin _ h with ⟨a,b,c,h1,h2⟩ | ⟨q',h1,h2⟩
  ·cases h2
  ·cases h2
   rw [h1]
   refine ⟨q,rfl,fun hqt=>?_⟩
   subst hqt
   obtain ⟨q',g1,g2,g3,g4⟩:=hex j
   rw [g1] at hq
   simp only at hq
   repeat' split at hq
   all_goals cases hq
open S Go.Sort
theorem foldLoop {τ α:Type} [Inhabited α] (xs:List α) (L:Nat→τ×Int→Option (τ×Int)) (f:τ→α→τ) (step:∀ m s i,i<xs.length→L (m+1) (s,(i:Int))=L m (f s (rd xs (i:Int)),(i:Int)+1))
  (stop:∀ m s,L (m+1) (s,(xs.length:Int))=some (s,(xs.length:Int))) (m:Nat) (hm:xs.length<m) (s:τ):L m (s,0)=some (xs.foldl f s,(xs.length:Int)):=by
 have key:∀ k i s m,i+k=xs.length→k<m→L m (s,(i:Int))=some ((xs.drop i).foldl f s,(xs.length:Int)):=by
  intro k
  induction k with
  | zero =>
   intro i s m hi hm
   obtain ⟨m,rfl⟩:∃ q,m=q+1:=⟨m-1,by omega⟩
   have:i=xs.length:=by omega
   subst this
   rw [stop,List.drop_length];rfl
  | succ k ih =>
   intro i s m hi hm
   obtain ⟨m,rfl⟩:∃ q,m=q+1:=⟨m-1,by omega⟩
   have hil:i<xs.length:=by omega
   rw [step m s i hil,List.drop_eq_getElem_cons hil,List.foldl_cons]
   have e:rd xs (i:Int)=xs[i]:=by rw [rd_nat,List.getD_eq_getElem?_getD,List.getElem?_eq_getElem hil];rfl
   rw [e]
   simpa using ih (i+1) (f s xs[i]) m (by omega) (by omega)
 simpa using key xs.length 0 s m (by omega) hm
def eOf (r:Rule) (c:Conjunct) (s:Symbol):Edge:=⟨r.Head,s.Name,c.Neg⟩
def addS (r:Rule) (c:Conjunct) (es:List (Edge×Bool)) (s:Symbol):List (Edge×Bool):=if 0≤s.Name then mput es (eOf r c s) true else es
def addC (r:Rule) (es:List (Edge×Bool)) (c:Conjunct):List (Edge×Bool):=c.Seq.foldl (addS r c) es
def addR (es:List (Edge×Bool)) (r:Rule):List (Edge×Bool):=r.Conj.foldl (addC r) es
def mapOf (g:Grammar):List (Edge×Bool):=g.Rules.foldl addR []
def keysOf (g:Grammar):List Edge:=(mapOf g).map (·.1)
def edgesOf (g:Grammar):List Edge:=sortL rowC (keysOf g)
theorem edges_l2 (K:Nat) (hK:200000≤K) (g:Grammar) (i j:Int) (h:(rd (rd g.Rules i).Conj j).Seq.length≤64) (es:List (Edge×Bool)) :
  q5.l2 K g i j K (es,0)=some ((rd (rd g.Rules i).Conj j).Seq.foldl (addS (rd g.Rules i) (rd (rd g.Rules i).Conj j)) es,((rd (rd g.Rules i).Conj j).Seq.length:Int)) :=
 foldLoop _ (q5.l2 K g i j) _ (fun m s k hk=>by
  simp only [q5.l2,addS,eOf]
  rw [if_pos (by omega),if_pos (Int.natCast_nonneg k),wr (a:=(k:Int)+1) (by omega) (by omega)]
  split <;> rfl) (fun m s=>by simp only [q5.l2];rw [if_neg (by omega)]) K (by omega) es
theorem edges_l1 (K:Nat) (hK:200000≤K) (g:Grammar) (i:Int) (h:RuleBd (rd g.Rules i)) (es:List (Edge×Bool)) :
  q5.l1 K g i K (es,0)=some ((rd g.Rules i).Conj.foldl (addC (rd g.Rules i)) es,((rd g.Rules i).Conj.length:Int)):=by
 have h8:=h.1
 exact foldLoop _ (q5.l1 K g i) _ (fun m s k hk=>by
  have hc:(rd (rd g.Rules i).Conj (k:Int)).Seq.length≤64:=h.2 _ (rd_mem (Int.natCast_nonneg k) (by omega))
  simp only [q5.l1]
  rw [if_pos (by omega),if_pos (Int.natCast_nonneg k),edges_l2 K hK g i k hc,Option.bind_some,wr (a:=(k:Int)+1) (by omega) (by omega)]
  rfl) (fun m s=>by simp only [q5.l1];rw [if_neg (by omega)]) K (by omega) es
theorem edges_l0 (K:Nat) (hK:200000≤K) (g:Grammar) (h:Bd g):q5.l0 K g K ([],0)=some (mapOf g,(g.Rules.length:Int)):=by
 have h256:=h.1
 exact foldLoop _ (q5.l0 K g) _ (fun m s k hk=>by
  have hr:RuleBd (rd g.Rules (k:Int)):=h.2 _ (rd_mem (Int.natCast_nonneg k) (by omega))
  simp only [q5.l0]
  rw [if_pos (by omega),if_pos (Int.natCast_nonneg k),edges_l1 K hK g k hr,Option.bind_some,wr (a:=(k:Int)+1) (by omega) (by omega)]
  rfl) (fun m s=>by simp only [q5.l0];rw [if_neg (by omega)]) K (by omega) []
end Go.Proofs.Ytcoineklodmbnaa
namespace Go.Proofs.Ytcoineklodmbnaa
open S Go.Sort
set_option linter.unusedVariables false
set_option linter.unusedSimpArgs false
set_option maxRecDepth 100000
theorem mput_keys {κ ν:Type} [DecidableEq κ] {es:List (κ×ν)} {k:κ} {v:ν}:∀ e,e ∈ (mput es k v).map (·.1)↔e ∈ es.map (·.1)∨e=k:=by
 induction es with
 | nil=>intro e;simp [mput]
 | cons p es ih =>
  intro e
  rw [mput]
  split
  ·rename_i h;subst h;simp only [List.map_cons,List.mem_cons]
   constructor
   ·rintro (h | h)
    ·exact .inl (.inl h)
    ·exact .inl (.inr h)
   ·rintro ((h | h) | h)
    ·exact .inl h
    ·exact .inr h
    ·exact .inl h
  ·simp only [List.map_cons,List.mem_cons,ih e]
   constructor
   ·rintro (h | h | h)
    ·exact .inl (.inl h)
    ·exact .inl (.inr h)
    ·exact .inr h
   ·rintro ((h | h) | h)
    ·exact .inl h
    ·exact .inr (.inl h)
    ·exact .inr (.inr h)
theorem mput_len {κ ν:Type} [DecidableEq κ] {es:List (κ×ν)} {k:κ} {v:ν}:(mput es k v).length≤es.length+1:=by
 induction es with
 | nil=>simp [mput]
 | cons p es ih=>rw [mput];split <;> simp <;> omega
theorem fold_mem {τ α:Type} (f:τ→α→τ) (In:τ→Edge→Prop) (Oc:α→Edge→Prop) (h:∀ s a e,In (f s a) e↔In s e∨Oc a e):∀ (xs:List α) (s:τ) e,In (xs.foldl f s) e↔In s e∨∃ a ∈ xs,Oc a e
 | [],s,e=>by simp
 | x::xs,s,e=>by
  rw [List.foldl_cons,fold_mem f In Oc h xs,h]
  simp only [List.mem_cons,exists_eq_or_imp,or_assoc]
theorem fold_len {τ α:Type} (f:τ→α→τ) (μ:τ→Nat) (B:Nat):∀ (xs:List α) (s:τ),(∀ s,∀ a ∈ xs,μ (f s a)≤μ s+B)→μ (xs.foldl f s)≤μ s+xs.length*B
 | [],s,_=>by simp
 | x::xs,s,h=>by
  have h1:=h s x (.head _)
  have h2:=fold_len f μ B xs (f s x) (fun s a ha=>h s a (.tail _ ha))
  rw [List.foldl_cons,List.length_cons,Nat.add_mul];omega
def OccS (r:Rule) (c:Conjunct) (s:Symbol) (e:Edge):Prop:=0≤s.Name∧e=eOf r c s
def OccC (r:Rule) (c:Conjunct) (e:Edge):Prop:=∃ s ∈ c.Seq,OccS r c s e
def OccR (r:Rule) (e:Edge):Prop:=∃ c ∈ r.Conj,OccC r c e
def Occ (g:Grammar) (e:Edge):Prop:=∃ r ∈ g.Rules,OccR r e
def InM (es:List (Edge×Bool)) (e:Edge):Prop:=e ∈ es.map (·.1)
theorem keys_occ (g:Grammar) (e:Edge):e ∈ keysOf g↔Occ g e:=by
 have h1:∀ r c es s e,InM (addS r c es s) e↔InM es e∨OccS r c s e:=fun r c es s e=>by
  unfold addS OccS InM
  split
  ·rename_i h;rw [mput_keys];simp [h]
  ·rename_i h;simp [h]
 have h2:∀ r es c e,InM (addC r es c) e↔InM es e∨OccC r c e:=fun r es c e=>fold_mem _ InM (OccS r c) (h1 r c) _ _ _
 have h3:∀ es r e,InM (addR es r) e↔InM es e∨OccR r e:=fun es r e=>fold_mem _ InM (OccC r) (h2 r) _ _ _
 have:=fold_mem addR InM OccR h3 g.Rules [] e
 unfold keysOf mapOf Occ
 exact this.trans (by simp [InM])
theorem map_len (g:Grammar) (h:Bd g):(mapOf g).length≤131072:=by
 have h1:∀ r c es s,(addS r c es s).length≤es.length+1:=fun r c es s=>by
  unfold addS
  split
  ·exact mput_len
  ·omega
 have h2:∀ r,RuleBd r→∀ es,∀ c ∈ r.Conj,(addC r es c).length≤es.length+64:=fun r hr es c hc=>by
  have:=fold_len (addS r c) List.length 1 c.Seq es (fun s a _=>h1 r c s a)
  have:=hr.2 c hc
  unfold addC;omega
 have h3:∀ es,∀ r ∈ g.Rules,(addR es r).length≤es.length+512:=fun es r hr=>by
  have hb:=h.2 r hr
  have:=fold_len (addC r) List.length 64 r.Conj es (fun s a ha=>h2 r hb s a ha)
  have:=hb.1
  unfold addR;omega
 have:=fold_len addR List.length 512 g.Rules [] h3
 have:=h.1
 unfold mapOf;simp at *;omega
theorem edges_perm (g:Grammar):(edgesOf g).Perm (keysOf g):=List.mergeSort_perm _ _
theorem mem_edges (g:Grammar) (e:Edge):e ∈ edgesOf g↔Occ g e:=by rw [(edges_perm g).mem_iff,keys_occ]
theorem edges_len (g:Grammar) (h:Bd g):(edgesOf g).length≤131072:=by
 rw [(edges_perm g).length_eq];unfold keysOf;rw [List.length_map];exact map_len g h
theorem Edges_spec (K:Nat) (hK:200000≤K) (g:Grammar):∃ b,G6 K g=some b∧(b=true→Bd g)∧q5 K g=some (if b=true then (edgesOf g,0) else ([],600)):=by
 obtain ⟨b,hb,hbd⟩:=May_some K (by omega) g
 refine ⟨b,hb,hbd,?_⟩
 unfold q5
 rw [hb,Option.bind_some]
 cases b with
 | false=>rfl
 | true =>
  have h:=hbd rfl
  have hl:=map_len g h
  rw [if_neg (by decide),edges_l0 K hK g h,Option.bind_some]
  simp only
  rw [if_pos (by omega),if_pos (by omega)]
  rfl
end Go.Proofs.Ytcoineklodmbnaa
namespace Go.Proofs.Ytcoineklodmbnaa
open S
set_option linter.unusedVariables false
set_option linter.unusedSimpArgs false
set_option maxRecDepth 100000
def runL {τ ρ α:Type} (B:τ→α→τ ⊕ ρ):τ→List α→τ ⊕ ρ
 | s,[]=>.inl s
 | s,x::xs=>match B s x with | .inl s'=>runL B s' xs | .inr r=>.inr r
theorem scanL {τ ρ α:Type} [Inhabited α] (xs:List α) (L:Nat→τ×Int→Option ((τ×Int) ⊕ ρ)) (B:τ→α→τ ⊕ ρ) (I:Nat→τ→Prop)
  (step:∀ m s i,i<xs.length→I i s→L (m+1) (s,(i:Int))=match B s (rd xs (i:Int)) with | .inr r=>some (.inr r) | .inl s'=>L m (s',(i:Int)+1))
  (stop:∀ m s,L (m+1) (s,(xs.length:Int))=some (.inl (s,(xs.length:Int)))) (hI:∀ s i,i<xs.length→I i s→∀ s',B s (rd xs (i:Int)) = .inl s'→I (i+1) s')
  (m:Nat) (hm:xs.length<m) (s:τ) (h0:I 0 s):L m (s,0)=some (match runL B s xs with | .inl s'=>.inl (s',(xs.length:Int)) | .inr r=>.inr r):=by
 have key:∀ k i s m,i+k=xs.length→k<m→I i s→L m (s,(i:Int))=some (match runL B s (xs.drop i) with | .inl s'=>.inl (s',(xs.length:Int)) | .inr r=>.inr r):=by
  intro k
  induction k with
  | zero =>
   intro i s m hi hm h
   obtain ⟨m,rfl⟩:∃ q,m=q+1:=⟨m-1,by omega⟩
   have:i=xs.length:=by omega
   subst this
   rw [stop,List.drop_length];rfl
  | succ k ih =>
   intro i s m hi hm h
   obtain ⟨m,rfl⟩:∃ q,m=q+1:=⟨m-1,by omega⟩
   have hil:i<xs.length:=by omega
   have e:rd xs (i:Int)=xs[i]:=by rw [rd_nat,List.getD_eq_getElem?_getD,List.getElem?_eq_getElem hil];rfl
   have hn:=hI s i hil h
   rw [step m s i hil h,List.drop_eq_getElem_cons hil,runL,← e]
   cases hb:B s (rd xs (i:Int)) with
   | inr r=>rfl
   | inl s'=>simpa using ih (i+1) s' m (by omega) (by omega) (hn s' hb)
 simpa using key xs.length 0 s m (by omega) hm h0
def letterP (c:Int):Prop:=(65≤c∧c≤90)∨(97≤c∧c≤122)∨c=95
def moreP (c:Int):Prop:=letterP c∨(48≤c∧c≤57)
def nameP (s:ByteArray):Prop:=1≤s.size∧s.size≤32∧s≠(⟨#[115,116,97,114,116]⟩:ByteArray)∧letterP (bt s 0)∧∀ i:Nat,i<s.size→moreP (bt s (i:Int))
theorem letter_spec (K:Nat) (c:Int):∃ b,P9 K c=some b∧(b=true↔letterP c):=by
 unfold P9 letterP
 repeat' split
 all_goals refine ⟨_,rfl,?_⟩
 all_goals first | simp only [true_iff,decide_eq_true_eq] | skip
 all_goals omega
theorem more_spec (K:Nat) (c:Int):∃ b,pb K c=some b∧(b=true↔moreP c):=by
 obtain ⟨b,hb,hl⟩:=letter_spec K c
 unfold pb moreP
 rw [hb,Option.bind_some]
 repeat' split
 all_goals refine ⟨_,rfl,?_⟩
 all_goals simp only [true_iff,decide_eq_true_eq,Bool.false_eq_true,false_iff] at *
 all_goals rw [← hl]
 all_goals simp_all
 all_goals omega
theorem ask_all {n K:Nat} {L:Nat→Int→Option (Int ⊕ Bool)} {p:Nat→Prop} (hn:n<K) (step:∀ m i,i<n→(p i∧L (m+1) (i:Int)=L m ((i:Int)+1))∨(¬ p i∧L (m+1) (i:Int)=some (.inr false)))
  (stop:∀ m,L (m+1) (n:Int)=some (.inl (n:Int))):(L K 0=some (.inl (n:Int))∧∀ i,i<n→p i)∨(L K 0=some (.inr false)∧¬ ∀ i,i<n→p i):=by
 have key:∀ k i m,i+k=n→k<m→(L m (i:Int)=some (.inl (n:Int))∧∀ j,i≤j→j<n→p j)∨(L m (i:Int)=some (.inr false)∧¬ ∀ j,i≤j→j<n→p j):=by
  intro k
  induction k with
  | zero =>
   intro i m hi hm
   obtain ⟨m,rfl⟩:∃ q,m=q+1:=⟨m-1,by omega⟩
   have:i=n:=by omega
   subst this
   exact .inl ⟨stop m,fun j h1 h2=>by omega⟩
  | succ k ih =>
   intro i m hi hm
   obtain ⟨m,rfl⟩:∃ q,m=q+1:=⟨m-1,by omega⟩
   rcases step m i (by omega) with ⟨hp,he⟩ | ⟨hp,he⟩
   ·rw [he]
    have:=ih (i+1) m (by omega) (by omega)
    rw [show ((i+1:Nat):Int)=(i:Int)+1 by omega] at this
    rcases this with ⟨h1,h2⟩ | ⟨h1,h2⟩
    ·refine .inl ⟨h1,fun j q1 q2=>?_⟩
     rcases Nat.eq_or_lt_of_le q1 with rfl | q1
     ·exact hp
     ·exact h2 j q1 q2
    ·exact .inr ⟨h1,fun h=>h2 fun j q1 q2=>h j (by omega) q2⟩
   ·exact .inr ⟨he,fun h=>hp (h i (Nat.le_refl _) (by omega))⟩
 have:=key n 0 K (by omega) hn
 rw [show ((0:Nat):Int)=0 from rfl] at this
 rcases this with ⟨h1,h2⟩ | ⟨h1,h2⟩
 ·exact .inl ⟨h1,fun i hi=>h2 i (Nat.zero_le _) hi⟩
 ·exact .inr ⟨h1,fun h=>h2 fun j _ hj=>h j hj⟩
theorem lexName_spec (K:Nat) (hK:1000≤K) (s:ByteArray):∃ b,f8 K s=some b∧(b=true↔nameP s):=by
 unfold f8 nameP
 by_cases h1:s=(⟨#[]⟩:ByteArray)
 ·rw [if_pos h1];refine ⟨_,rfl,?_⟩
  subst h1
  simp only [Bool.false_eq_true,false_iff]
  exact fun h=>absurd h.1 (by decide)
 rw [if_neg h1]
 by_cases h2:32<(s.size:Int)
 ·rw [if_pos h2];exact ⟨_,rfl,by simp;omega⟩
 rw [if_neg h2]
 have h0:0<(s.size:Int):=by
  rcases Nat.eq_zero_or_pos s.size with h | h
  ·exfalso;apply h1
   apply ByteArray.ext
   exact Array.eq_empty_of_size_eq_zero h
  ·omega
 by_cases h3:s=(⟨#[115,116,97,114,116]⟩:ByteArray)
 ·rw [if_pos h3];exact ⟨_,rfl,by simp [h3]⟩
 rw [if_neg h3,if_pos h0]
 obtain ⟨b,hb,hl⟩:=letter_spec K (bt s 0)
 rw [hb,Option.bind_some]
 cases b with
 | false=>exact ⟨false,rfl,by simp only [Bool.false_eq_true,false_iff];exact fun h=>absurd (hl.2 h.2.2.2.1) (by decide)⟩
 | true =>
  rw [if_neg (by decide)]
  rcases ask_all (n:=s.size) (K:=K) (L:=f8.l0 K s) (p:=fun i=>moreP (bt s (i:Int))) (by omega) (fun m i hi=>by
   obtain ⟨q,hq,hm⟩:=more_spec K (bt s (i:Int))
   simp only [f8.l0]
   rw [if_pos (by omega),if_pos (Int.natCast_nonneg i),hq,Option.bind_some,wr (a:=(i:Int)+1) (by omega) (by omega)]
   cases q with
   | true=>exact .inl ⟨hm.1 rfl,rfl⟩
   | false=>exact .inr ⟨fun h=>absurd (hm.2 h) (by decide),rfl⟩) (fun m=>by simp only [f8.l0];rw [if_neg (by omega)]) with ⟨h4,h5⟩ | ⟨h4,h5⟩
  ·rw [h4];exact ⟨true,rfl,by simp only [true_iff];exact ⟨by omega,by omega,h3,hl.1 rfl,h5⟩⟩
  ·rw [h4];exact ⟨false,rfl,by simp only [Bool.false_eq_true,false_iff];exact fun h=>h5 h.2.2.2.2⟩
def namesP (ns:List ByteArray):Prop:=1≤ns.length∧ns.length≤64∧(∀ s ∈ ns,nameP s)∧ns.Nodup
theorem mget_cons {κ ν:Type} [DecidableEq κ] {p:κ×ν} {es:List (κ×ν)} {q:κ}:mget (p::es) q=if p.1=q then some p.2 else mget es q:=by
 unfold mget
 rw [List.find?_cons]
 by_cases h:p.1=q <;> simp [h]
theorem mgetD_mput {κ:Type} [DecidableEq κ] {es:List (κ×Bool)} {k q:κ}:mgetD false (mput es k true) q=true↔q=k∨mgetD false es q=true:=by
 unfold mgetD
 induction es with
 | nil =>
  rw [mput,mget_cons]
  by_cases h:k=q
  ·simp [h]
  ·simp [h,Ne.symm h,mget]
 | cons p es ih =>
  rw [mput]
  split
  ·rename_i h
   rw [mget_cons,mget_cons,h]
   by_cases h2:k=q
   ·simp [h2]
   ·simp [h2,Ne.symm h2]
  ·rename_i h
   rw [mget_cons,mget_cons]
   by_cases h2:p.1=q
   ·simp only [if_pos h2,Option.getD_some]
    refine ⟨.inr,fun h3=>h3.elim (fun h4=>absurd (h2.trans h4) h) id⟩
   ·simp only [if_neg h2]
    exact ih
open Classical in
theorem names_run (es:List (ByteArray×Bool)):∀ ns:List ByteArray,((∃ es',runL (fun es s=>if nameP s then if mgetD false es s=true then .inr false else .inl (mput es s true) else .inr false) es ns = .inl es')∧(∀ s ∈ ns,nameP s)∧ns.Nodup∧∀ s ∈ ns,¬ mgetD false es s=true)∨(runL (fun es s=>if nameP s then if mgetD false es s=true then .inr false else .inl (mput es s true) else .inr false) es ns=(.inr false:List (ByteArray×Bool) ⊕ Bool)∧¬ ((∀ s ∈ ns,nameP s)∧ns.Nodup∧∀ s ∈ ns,¬ mgetD false es s=true))
 | []=>.inl ⟨⟨es,rfl⟩,by simp,List.nodup_nil,by simp⟩
 | s::ns=>by
  unfold runL
  by_cases h1:nameP s
  ·by_cases h2:mgetD false es s=true
   ·simp only [if_pos h1,if_pos h2]
    exact .inr ⟨trivial,fun h=>h.2.2 s (.head _) h2⟩
   ·simp only [if_pos h1,if_neg h2]
    have hm:∀ q,mgetD false (mput es s true) q=true↔q=s∨mgetD false es q=true:=fun q=>mgetD_mput
    rcases names_run (mput es s true) ns with ⟨h3,h4,h5,h6⟩ | ⟨h3,h4⟩
    ·refine .inl ⟨h3,fun q hq=>?_,List.nodup_cons.2 ⟨fun hs=>h6 s hs ((hm s).2 (.inl rfl)),h5⟩,fun q hq=>?_⟩
     ·rcases List.mem_cons.1 hq with rfl | hq
      ·exact h1
      ·exact h4 q hq
     ·rcases List.mem_cons.1 hq with rfl | hq
      ·exact h2
      ·exact fun h=>h6 q hq ((hm q).2 (.inr h))
    ·refine .inr ⟨h3,fun ⟨a1,a2,a3⟩=>h4 ⟨fun q hq=>a1 q (.tail _ hq),(List.nodup_cons.1 a2).2,fun q hq h=>?_⟩⟩
     rcases (hm q).1 h with rfl | h
     ·exact (List.nodup_cons.1 a2).1 hq
     ·exact a3 q (.tail _ hq) h
  ·simp only [if_neg h1]
   exact .inr ⟨trivial,fun h=>h1 (h.1 s (.head _))⟩
open Classical in
theorem names_spec (K:Nat) (hK:1000≤K) (ns:List ByteArray):∃ b,m7 K ns=some b∧(b=true↔namesP ns):=by
 unfold m7 namesP
 split
 ·exact ⟨_,rfl,by simp;omega⟩
 split
 ·exact ⟨_,rfl,by simp;omega⟩
 rename_i h1 h2
 have hs:=scanL ns (m7.l0 K ns) (fun es s=>if nameP s then if mgetD false es s=true then .inr false else .inl (mput es s true) else .inr false) (fun _ _=>True) (fun m s i hi _=>by
  obtain ⟨b,hb,hp⟩:=lexName_spec K hK (rd ns (i:Int))
  simp only [m7.l0]
  rw [if_pos (by omega),if_pos (Int.natCast_nonneg i),hb,Option.bind_some,wr (a:=(i:Int)+1) (by omega) (by omega)]
  cases b with
  | false=>rw [if_pos (by decide),if_neg (fun h=>absurd (hp.2 h) (by decide))]
  | true =>
   rw [if_neg (by decide),if_pos (hp.1 rfl)]
   split <;> rfl) (fun m s=>by simp only [m7.l0];rw [if_neg (by omega)]) (fun _ _ _ _ _ _=>trivial) K (by omega) [] trivial
 rw [hs]
 rcases names_run [] ns with ⟨⟨es',h3⟩,h4,h5,h6⟩ | ⟨h3,h4⟩
 ·rw [h3];exact ⟨true,rfl,by simp only [true_iff];exact ⟨by omega,by omega,h4,h5⟩⟩
 ·rw [h3];exact ⟨false,rfl,by simp only [Bool.false_eq_true,false_iff];exact fun h=>h4 ⟨h.2.2.1,h.2.2.2,fun s _ h=>by simp [mgetD,mget] at h⟩⟩
def symP (s:Symbol) (n:Int):Prop:=(s.Name = -1∧0≤s.Lo∧s.Lo≤s.Hi∧s.Hi≤255)∨(0≤s.Name∧s.Name<n∧s.Lo=0∧s.Hi=0)
theorem symbol_spec (K:Nat) (s:Symbol) (n:Int):∃ b,m9 K s n=some b∧(b=true↔symP s n):=by
 unfold m9 symP
 repeat' split
 all_goals refine ⟨_,rfl,?_⟩
 all_goals simp only [decide_eq_true_eq,Bool.false_eq_true,false_iff]
 all_goals omega
instance (s:Symbol) (n:Int):Decidable (symP s n):=by unfold symP;infer_instance
def conjP (n:Int) (c:Conjunct):Prop:=c.Seq.length≤64∧∀ s ∈ c.Seq,symP s n
instance (n:Int) (c:Conjunct):Decidable (conjP n c):=by unfold conjP;infer_instance
def ruleP (n:Int) (r:Rule):Prop:=1≤r.Conj.length∧r.Conj.length≤8∧∀ c ∈ r.Conj,conjP n c
instance (n:Int) (r:Rule):Decidable (ruleP n r):=by unfold ruleP;infer_instance
def sumC:List Conjunct→Nat
 | []=>0
 | c::cs=>c.Seq.length+sumC cs
def sumR (r:Rule):Nat:=sumC r.Conj
theorem all_rd {T:Type} [Inhabited T] {xs:List T} {p:T→Prop}:(∀ i,i<xs.length→p (rd xs (i:Int)))↔∀ x ∈ xs,p x:=by
 constructor
 ·intro h x hx
  obtain ⟨i,hi,rfl⟩:=List.getElem_of_mem hx
  have:=h i hi
  rwa [rd_nat,List.getD_eq_getElem?_getD,List.getElem?_eq_getElem hi] at this
 ·intro h i hi
  exact h _ (rd_mem (Int.natCast_nonneg i) (by omega))
theorem ask_all2 {ρ:Type} {n K:Nat} {L:Nat→Int→Option (Int ⊕ ρ)} {p:Nat→Prop} {no:ρ} (hn:n<K) (step:∀ m i,i<n→(p i∧L (m+1) (i:Int)=L m ((i:Int)+1))∨(¬ p i∧L (m+1) (i:Int)=some (.inr no)))
  (stop:∀ m,L (m+1) (n:Int)=some (.inl (n:Int))):(L K 0=some (.inl (n:Int))∧∀ i,i<n→p i)∨(L K 0=some (.inr no)∧¬ ∀ i,i<n→p i):=by
 have key:∀ k i m,i+k=n→k<m→(L m (i:Int)=some (.inl (n:Int))∧∀ j,i≤j→j<n→p j)∨(L m (i:Int)=some (.inr no)∧¬ ∀ j,i≤j→j<n→p j):=by
  intro k
  induction k with
  | zero =>
   intro i m hi hm
   obtain ⟨m,rfl⟩:∃ q,m=q+1:=⟨m-1,by omega⟩
   have:i=n:=by omega
   subst this
   exact .inl ⟨stop m,fun j h1 h2=>by omega⟩
  | succ k ih =>
   intro i m hi hm
   obtain ⟨m,rfl⟩:∃ q,m=q+1:=⟨m-1,by omega⟩
   rcases step m i (by omega) with ⟨hp,he⟩ | ⟨hp,he⟩
   ·rw [he]
    have:=ih (i+1) m (by omega) (by omega)
    rw [show ((i+1:Nat):Int)=(i:Int)+1 by omega] at this
    rcases this with ⟨h1,h2⟩ | ⟨h1,h2⟩
    ·refine .inl ⟨h1,fun j q1 q2=>?_⟩
     rcases Nat.eq_or_lt_of_le q1 with rfl | q1
     ·exact hp
     ·exact h2 j q1 q2
    ·exact .inr ⟨h1,fun h=>h2 fun j q1 q2=>h j (by omega) q2⟩
   ·exact .inr ⟨he,fun h=>hp (h i (Nat.le_refl _) (by omega))⟩
 have:=key n 0 K (by omega) hn
 rw [show ((0:Nat):Int)=0 from rfl] at this
 rcases this with ⟨h1,h2⟩ | ⟨h1,h2⟩
 ·exact .inl ⟨h1,fun i hi=>h2 i (Nat.zero_le _) hi⟩
 ·exact .inr ⟨h1,fun h=>h2 fun j _ hj=>h j hj⟩
def ruleB (n:Int) (s:Int) (c:Conjunct):Int ⊕ (Int×Bool):=if conjP n c then .inl (s+(c.Seq.length:Int)) else .inr (0,false)
theorem ruleB_run (n:Int):∀ (cs:List Conjunct) (s:Int),(runL (ruleB n) s cs = .inl (s+(sumC cs:Int))∧∀ c ∈ cs,conjP n c)∨(runL (ruleB n) s cs = .inr (0,false)∧¬ ∀ c ∈ cs,conjP n c)
 | [],s=>.inl ⟨by simp [runL,sumC],by simp⟩
 | c::cs,s=>by
  unfold runL ruleB
  by_cases h:conjP n c
  ·rw [if_pos h]
   rcases ruleB_run n cs (s+(c.Seq.length:Int)) with ⟨h1,h2⟩ | ⟨h1,h2⟩
   ·refine .inl ⟨?_,fun q hq=>?_⟩
    ·show runL (ruleB n) _ cs=_
     rw [h1,sumC];push_cast;rw [Int.add_assoc]
    ·rcases List.mem_cons.1 hq with rfl | hq
     ·exact h
     ·exact h2 q hq
   ·exact .inr ⟨h1,fun h3=>h2 fun q hq=>h3 q (.tail _ hq)⟩
  ·rw [if_neg h];exact .inr ⟨rfl,fun h3=>h (h3 c (.head _))⟩
theorem sumC_le {n:Int}:∀ {cs:List Conjunct},(∀ c ∈ cs,conjP n c)→sumC cs≤64*cs.length
 | [],_=>by simp [sumC]
 | c::cs,h=>by
  have h1:=(h c (.head _)).1
  have h2:=sumC_le (cs:=cs) fun q hq=>h q (.tail _ hq)
  rw [sumC,List.length_cons];omega
theorem rule_spec (K:Nat) (hK:1000≤K) (r:Rule) (n:Int):(Q5 K r n=some ((sumR r:Int),true)∧ruleP n r)∨(∃ q,Q5 K r n=some (q,false)∧¬ ruleP n r):=by
 unfold Q5
 by_cases h1:(r.Conj.length:Int)<1
 ·rw [if_pos h1];exact .inr ⟨_,rfl,fun h=>by have:=h.1;omega⟩
 rw [if_neg h1]
 by_cases h2:8<(r.Conj.length:Int)
 ·rw [if_pos h2];exact .inr ⟨_,rfl,fun h=>by have:=h.2.1;omega⟩
 rw [if_neg h2]
 have hs:=scanL r.Conj (Q5.l0 K r n) (ruleB n) (fun i s=>0≤s∧s≤64*i) (fun m s i hi hI=>by
  unfold ruleB
  simp only [Q5.l0]
  rw [if_pos (by omega),if_pos (Int.natCast_nonneg i),wr (a:=(i:Int)+1) (by omega) (by omega)]
  by_cases h64:64<((rd r.Conj (i:Int)).Seq.length:Int)
  ·rw [if_pos h64,if_neg (fun h=>by have:=h.1;omega)]
  rw [if_neg h64,wr (by omega) (by omega)]
  rcases ask_all2 (n:=(rd r.Conj (i:Int)).Seq.length) (K:=K) (L:=Q5.l1 K r n i) (p:=fun j=>symP (rd (rd r.Conj (i:Int)).Seq (j:Int)) n) (by omega) (fun m j hj=>by
   obtain ⟨b,hb,hp⟩:=symbol_spec K (⟨(rd ((rd r.Conj (i:Int)).Seq) (j:Int)).Name,(rd ((rd r.Conj (i:Int)).Seq) (j:Int)).Lo,(rd ((rd r.Conj (i:Int)).Seq) (j:Int)).Hi⟩:Symbol) n
   simp only [Q5.l1]
   rw [if_pos (by omega),if_pos (Int.natCast_nonneg j),hb,Option.bind_some,wr (a:=(j:Int)+1) (by omega) (by omega)]
   cases b with
   | true=>exact .inl ⟨hp.1 rfl,rfl⟩
   | false=>exact .inr ⟨fun h=>absurd (hp.2 h) (by decide),rfl⟩) (fun m=>by simp only [Q5.l1];rw [if_neg (by omega)]) with ⟨h4,h5⟩ | ⟨h4,h5⟩
  ·rw [h4,if_pos ⟨by omega,all_rd.1 h5⟩];rfl
  ·rw [h4,if_neg (fun h=>h5 (all_rd.2 h.2))];rfl) (fun m s=>by simp only [Q5.l0];rw [if_neg (by omega)]) (fun s i hi hI s' h=>by
   unfold ruleB at h
   split at h
   ·rename_i hc
    cases h
    have:=hc.1
    exact ⟨by omega,by push_cast;omega⟩
   ·cases h) K (by omega) 0 ⟨by omega,by omega⟩
 rw [hs]
 rcases ruleB_run n r.Conj 0 with ⟨h4,h5⟩ | ⟨h4,h5⟩
 ·rw [h4];exact .inl ⟨by simp only [brk,Option.bind_some,Int.zero_add];rfl,by omega,by omega,h5⟩
 ·rw [h4];exact .inr ⟨0,rfl,fun h=>h5 h.2.2⟩
def chainP (n:Int):Int→List Rule→Prop
 | h,[]=>h=n-1
 | h,r::rs=>ruleP n r∧(r.Head=h∨r.Head=h+1)∧chainP n r.Head rs
def total:List Rule→Nat
 | []=>0
 | r::rs=>sumR r+total rs
def mayP (g:Grammar):Prop:=namesP g.Names∧0≤g.Start∧g.Start<(g.Names.length:Int)∧1≤g.Rules.length∧g.Rules.length≤256∧(rd g.Rules 0).Head=0∧chainP (g.Names.length:Int) (-1) g.Rules∧total g.Rules≤1024
def gB (n:Int) (s:Int×Int) (r:Rule):(Int×Int) ⊕ Bool:=if ruleP n r then if r.Head<s.1 then .inr false else if s.1+1<r.Head then .inr false else if 1024<s.2+(sumR r:Int) then .inr false else .inl (r.Head,s.2+(sumR r:Int)) else .inr false
theorem gB_run (n:Int):∀ (rs:List Rule) (s:Int×Int),s.2≤1024→((∃ s',runL (gB n) s rs = .inl s'∧(s'.1=n-1↔chainP n s.1 rs))∧s.2+(total rs:Int)≤1024)∨(runL (gB n) s rs = .inr false∧¬ (chainP n s.1 rs∧s.2+(total rs:Int)≤1024))
 | [],s,hs=>.inl ⟨⟨s,rfl,Iff.rfl⟩,by simp [total];omega⟩
 | r::rs,s,hs=>by
  unfold runL gB chainP total
  by_cases h1:ruleP n r
  ·rw [if_pos h1]
   by_cases h2:r.Head<s.1
   ·rw [if_pos h2];exact .inr ⟨rfl,fun h=>by have:=h.1.2.1;omega⟩
   rw [if_neg h2]
   by_cases h3:s.1+1<r.Head
   ·rw [if_pos h3];exact .inr ⟨rfl,fun h=>by have:=h.1.2.1;omega⟩
   rw [if_neg h3]
   by_cases h4:1024<s.2+(sumR r:Int)
   ·rw [if_pos h4];exact .inr ⟨rfl,fun h=>by have:=h.2;push_cast at this;omega⟩
   rw [if_neg h4]
   rcases gB_run n rs (r.Head,s.2+(sumR r:Int)) (by simp only;omega) with ⟨⟨s',h5,h6⟩,h7⟩ | ⟨h5,h6⟩
   ·refine .inl ⟨⟨s',h5,h6.trans ⟨fun h=>⟨h1,by omega,h⟩,fun h=>h.2.2⟩⟩,?_⟩
    simp only at h7;push_cast;omega
   ·refine .inr ⟨h5,fun h=>h6 ⟨h.1.2.2,?_⟩⟩
    have:=h.2;push_cast at this;simp only;omega
  ·rw [if_neg h1];exact .inr ⟨rfl,fun h=>h1 h.1.1⟩
theorem sumR_le {n:Int} {r:Rule} (h:ruleP n r):sumR r≤512:=by
 have:=sumC_le h.2.2
 have:=h.2.1
 unfold sumR;omega
theorem gMay_spec (K:Nat) (hK:1000≤K) (g:Grammar):∃ b,G6 K g=some b∧(b=true↔mayP g):=by
 unfold G6 mayP
 obtain ⟨b,hb,hn⟩:=names_spec K hK g.Names
 rw [hb,Option.bind_some]
 cases b with
 | false=>exact ⟨_,rfl,by simp only [Bool.false_eq_true,false_iff];exact fun h=>absurd (hn.2 h.1) (by decide)⟩
 | true =>
 rw [if_neg (by decide)]
 have hnm:=hn.1 rfl
 by_cases h1:g.Start<0
 ·rw [if_pos h1];exact ⟨_,rfl,by simp only [Bool.false_eq_true,false_iff];exact fun h=>by have:=h.2.1;omega⟩
 rw [if_neg h1]
 by_cases h2:(g.Names.length:Int)≤g.Start
 ·rw [if_pos h2];exact ⟨_,rfl,by simp only [Bool.false_eq_true,false_iff];exact fun h=>by have:=h.2.2.1;omega⟩
 rw [if_neg h2]
 by_cases h3:(g.Rules.length:Int)<1
 ·rw [if_pos h3];exact ⟨_,rfl,by simp only [Bool.false_eq_true,false_iff];exact fun h=>by have:=h.2.2.2.1;omega⟩
 rw [if_neg h3]
 by_cases h4:256<(g.Rules.length:Int)
 ·rw [if_pos h4];exact ⟨_,rfl,by simp only [Bool.false_eq_true,false_iff];exact fun h=>by have:=h.2.2.2.2.1;omega⟩
 rw [if_neg h4]
 have hs:=scanL (τ:=Int×Int) (ρ:=Bool) g.Rules (fun m s=>(G6.l0 K g m (s.1.1,s.1.2,s.2)).map fun | .inl (a,b,c)=>.inl ((a,b),c) | .inr r=>.inr r) (gB (g.Names.length:Int)) (fun i s=>-1≤s.1∧s.1≤i∧0≤s.2∧s.2≤1024) (fun m s i hi hI=>by
  unfold gB
  simp only [G6.l0]
  rw [if_pos (by omega),if_pos (Int.natCast_nonneg i),wr (a:=(i:Int)+1) (by omega) (by omega)]
  rcases rule_spec K hK (rd g.Rules (i:Int)) (g.Names.length:Int) with ⟨h5,h6⟩ | ⟨q,h5,h6⟩
  ·have:=sumR_le h6
   rw [h5,Option.bind_some,if_pos h6]
   simp only [Bool.not_true,Bool.false_eq_true,if_false]
   rw [wr (a:=s.1+1) (by omega) (by omega),wr (a:=s.2+(sumR (rd g.Rules (i:Int)):Int)) (by omega) (by omega)]
   repeat' split
   all_goals first | rfl | (rename_i h;cases h;done) | skip
   all_goals (rename_i h;cases h;rfl)
  ·rw [h5,Option.bind_some,if_neg h6];rfl) (fun m s=>by simp only [G6.l0];rw [if_neg (by omega)];rfl) (fun s i hi hI s' h=>by
  unfold gB at h
  split at h
  ·split at h
   ·cases h
   ·split at h
    ·cases h
    ·split at h
     ·cases h
     ·cases h;exact ⟨by simp only;omega,by simp only;push_cast;omega,by simp only;omega,by simp only;omega⟩
  ·cases h) K (by omega) (-1,0) ⟨by decide,by decide,by decide,by decide⟩
 have hpos:0<(g.Rules.length:Int):=by omega
 rcases gB_run (g.Names.length:Int) g.Rules (-1,0) (by decide) with ⟨⟨s',h5,h6⟩,h7⟩ | ⟨h5,h6⟩
 ·rw [h5] at hs
  have e:∃ c,G6.l0 K g K (-1,0,0)=some (.inl (s'.1,s'.2,c)):=by
   simp only at hs
   cases hl:G6.l0 K g K (-1,0,0) with
   | none=>rw [hl] at hs;cases hs
   | some x =>
    rw [hl] at hs
    cases x with
    | inl x=>obtain ⟨a,b,c⟩:=x;simp only [Option.map_some,Option.some.injEq,Sum.inl.injEq,Prod.mk.injEq] at hs;exact ⟨c,by rw [← hs.1]⟩
    | inr q=>cases hs
  obtain ⟨c,hl⟩:=e
  rw [hl]
  simp only [brk,Option.bind_some]
  rw [if_pos hpos]
  have hn64:=hnm.2.1
  by_cases h8:(rd g.Rules 0).Head=0
  ·rw [if_pos h8]
   refine ⟨_,rfl,?_⟩
   rw [decide_eq_true_eq,wr (by omega) (by omega),h6]
   simp only at h7
   exact ⟨fun h=>⟨hnm,by omega,by omega,by omega,by omega,h8,h,by omega⟩,fun h=>h.2.2.2.2.2.2.1⟩
  ·rw [if_neg h8]
   exact ⟨_,rfl,by simp only [Bool.false_eq_true,false_iff];exact fun h=>h8 h.2.2.2.2.2.1⟩
 ·rw [h5] at hs
  have e:G6.l0 K g K (-1,0,0)=some (.inr false):=by
   simp only at hs
   cases hl:G6.l0 K g K (-1,0,0) with
   | none=>rw [hl] at hs;cases hs
   | some x =>
    rw [hl] at hs
    cases x with
    | inl x=>cases hs
    | inr q=>cases hs;rfl
  rw [e]
  refine ⟨false,rfl,?_⟩
  simp only [Bool.false_eq_true,false_iff]
  exact fun h=>h6 ⟨h.2.2.2.2.2.2.1,by have:=h.2.2.2.2.2.2.2;simp only;omega⟩
theorem chain_le {n:Int}:∀ {rs:List Rule} {h:Int},chainP n h rs→h≤n-1
 | [],h,hc=>by rw [chainP] at hc;omega
 | r::rs,h,hc=>by
  rw [chainP] at hc
  have:=chain_le hc.2.2
  omega
open S Go.Sort
theorem reach_le:reachBytes=140737488351232:=by decide
def SzG (g:Grammar):Prop:=g.Names.length*16≤140737488351232∧g.Rules.length*32≤140737488351232∧∀ r ∈ g.Rules,r.Conj.length*32≤140737488351232∧∀ c ∈ r.Conj,c.Seq.length*24≤140737488351232
theorem SzG_wf {g:Grammar} (w:Gd g):SzG g:=by
 obtain ⟨_,⟨w1,_⟩,w2,w3⟩:=w
 rw [reach_le] at w1 w2
 refine ⟨w1,w2,fun r hr=>?_⟩
 obtain ⟨_,w4,w5⟩:=w3 r hr
 rw [reach_le] at w4
 refine ⟨w4,fun c hc=>?_⟩
 have w6:=(w5 c hc).2.1
 rw [reach_le] at w6
 exact w6
def KW:Nat:=140737488355328
theorem take_snoc {T:Type} [Inhabited T] {xs:List T} {i:Nat} (hi:i<xs.length):xs.take i++[rd xs (i:Int)]=xs.take (i+1):=by
 have e:rd xs (i:Int)=xs[i]:=by rw [rd_nat,List.getD_eq_getElem?_getD,List.getElem?_eq_getElem hi];rfl
 rw [e,List.take_append_getElem]
theorem chain_mem {n:Int}:∀ {rs:List Rule} {h:Int},chainP n h rs→∀ r ∈ rs,h≤r.Head∧r.Head≤n-1∧ruleP n r
 | [],h,hc,r,hr=>by cases hr
 | q::rs,h,hc,r,hr=>by
  rw [chainP] at hc
  have hl:=chain_le hc.2.2
  rcases List.mem_cons.1 hr with rfl | hr
  ·exact ⟨by omega,hl,hc.1⟩
  ·have:=chain_mem hc.2.2 r hr
   exact ⟨by omega,this.2.1,this.2.2⟩
theorem may_heads {g:Grammar} (h:mayP g):∀ r ∈ g.Rules,0≤r.Head∧r.Head<(g.Names.length:Int)∧ruleP (g.Names.length:Int) r:=by
 obtain ⟨_,_,_,h1,_,h2,h3,_⟩:=h
 cases hr:g.Rules with
 | nil=>rw [hr] at h1;simp at h1
 | cons r0 rs =>
  rw [hr] at h2 h3
  have h4:r0.Head=0:=h2
  rw [chainP] at h3
  intro r hm
  have hl:=chain_le h3.2.2
  rcases List.mem_cons.1 hm with rfl | hm
  ·exact ⟨by omega,by omega,h3.1⟩
  ·have:=chain_mem h3.2.2 r hm
   exact ⟨by omega,by omega,this.2.2⟩
theorem may_bd {g:Grammar} (h:mayP g):Bd g:=⟨h.2.2.2.2.1,fun r hr=>⟨(may_heads h r hr).2.2.2.1,fun c hc=>((may_heads h r hr).2.2.2.2 c hc).1⟩⟩
theorem occ_bounds {g:Grammar} (h:mayP g) {e:Edge} (ho:Occ g e):0≤e.From∧e.From<(g.Names.length:Int)∧0≤e.To∧e.To<(g.Names.length:Int):=by
 obtain ⟨r,hr,c,hc,s,hs,h0,rfl⟩:=ho
 have h1:=may_heads h r hr
 have h2:=(h1.2.2.2.2 c hc).2 s hs
 refine ⟨h1.1,h1.2.1,h0,?_⟩
 show s.Name<_
 rcases h2 with h2 | h2 <;> omega
end Go.Proofs.Ytcoineklodmbnaa

