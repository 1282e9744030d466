import Derived.Test.YtohcehphgihplaaGreatW10
namespace Go.Proofs.YtohcehphgihplaaGreat
open S
set_option linter.unusedVariables false
set_option maxRecDepth 100000
set_option maxHeartbeats 4000000
def Wb (K:Nat) (c1:Int):Option Bool:=if 48≤c1 then some (decide (c1≤57)) else some false
theorem Me (K:Nat) (c1:Int):Pure Tryz.prog 86 [Ai .u8 c1] (Wb K c1) (fun r=>Ab r):=by
 refine spec_of' Tryz.func86 rfl Tryz.ntmps86 (le_ rfl) ?_
 refine sSR Y<|sA Y Y<|sES Y<|sM Y Y<|sQ (dGe Y Y) Y<|sM Y Y<|y4 (fun h2=>?_) (fun h2=>?_)
 ·refine sG 2 Y Y Y (dT h2) Y (dMv Y) Y<|sG 2 Y Y Y (dT h2) Y (dLe Y Y) Y<|sQ (P1 Y (dT h2) Y) Y<|sA Y Y<|k0<|L1 [] Tryz.func86 Tryz.results86 (rT Y) ⟨Y,Y⟩
 ·refine sU 2 Y Y Y (dF h2) Y Y<|sU 2 Y Y Y (dF h2) Y Y<|sQ (Q1 Y (dF h2) Y) Y<|sA Y Y<|k0<|L1 [] Tryz.func86 Tryz.results86 (rT Y) ⟨Y,Y⟩
def P7.l0 (K:Nat) (s1:ByteArray):Nat→Int→Option (Int ⊕ Bool)
 | 0,_=>none
 | m+1,i9=>if i9<(s1.size:Int) then if 0≤i9 then (qb K (bt s1 i9)).bind fun r12=>if (!r12)=true then (Wb K (bt s1 i9)).bind fun r15=>if (!r15)=true then some (.inr false) else P7.l0 K s1 m (IntKind.wrap .i64 (i9+1)) else P7.l0 K s1 m (IntKind.wrap .i64 (i9+1)) else none else some (.inl i9)
def P7 (K:Nat) (s1:ByteArray):Option Bool:=if (s1.size:Int)<1 then some false else if 32<(s1.size:Int) then some false else if s1=(⟨#[115,116,97,114,116]⟩:ByteArray) then some false else if 0<(s1.size:Int) then (qb K (bt s1 0)).bind fun r6=>if (!r6)=true then some false else brk (P7.l0 K s1 K 0) fun i9=>some true else none
theorem tc (K:Nat) (s1:ByteArray):Pure Tryz.prog 71 [.lit (.string s1)] (P7 K s1) (fun r=>Ab r):=by
 refine spec_of' Tryz.func71 rfl Tryz.ntmps71 (le_ rfl) ?_
 refine sSR Y<|sA Y Y<|k0<|J1<|sSR Y<|sM Y Y<|sQ (fc Tryz.underlying9 Y) Y<|sQ (dLt Y Y) Y<|sM Y Y<|y4 (fun h2=>?_) (fun h2=>?_)
 ·refine sU 3 Y Y Y (dT h2) Y Y<|sU 3 Y Y Y (dT h2) Y Y<|sU 3 Y Y Y (dT h2) Y Y<|sQ (P1 Y (dT h2) Y) Y<|sM Y Y<|sU 8 Y Y Y Y Y Y<|sU 8 Y Y Y Y Y Y<|sQ (P1 Y Y Y) Y<|sM Y Y<|sU 12 Y Y Y Y Y Y<|sU 12 Y Y Y Y Y Y<|sU 12 Y Y Y Y Y Y<|sU 12 Y Y Y Y Y Y<|sQ (P1 Y Y Y) Y<|k0<|J5 Y Y<|sSR Y<|sA Y Y<|k0<|L1 [] Tryz.func71 Tryz.results71 (rT Y) ⟨Y,Y⟩
 ·refine sG 3 Y Y Y (dF h2) Y (dMv Y) Y<|sG 3 Y Y Y (dF h2) Y (fc Tryz.underlying9 Y) Y<|sG 3 Y Y Y (dF h2) Y (dGt Y Y) Y<|sQ (Q1 Y (dF h2) Y) Y<|sM Y Y<|y4 (fun h3=>?_) (fun h3=>?_)
  ·refine sU 8 Y Y Y (dT h3) Y Y<|sU 8 Y Y Y (dT h3) Y Y<|sQ (P1 Y (dT h3) Y) Y<|sM Y Y<|sU 12 Y Y Y Y Y Y<|sU 12 Y Y Y Y Y Y<|sU 12 Y Y Y Y Y Y<|sU 12 Y Y Y Y Y Y<|sQ (P1 Y Y Y) Y<|k0<|J5 Y Y<|sSR Y<|sA Y Y<|k0<|L1 [] Tryz.func71 Tryz.results71 (rT Y) ⟨Y,Y⟩
  ·refine sG 8 Y Y Y (dF h3) Y (dMv Y) Y<|sG 8 Y Y Y (dF h3) Y (gj Y Y) Y<|sQ (Q1 Y (dF h3) Y) Y<|sM Y Y<|y4 (fun h4=>?_) (fun h4=>?_)
   ·refine sU 12 Y Y Y (dT h4) Y Y<|sU 12 Y Y Y (dT h4) Y Y<|sU 12 Y Y Y (dT h4) Y Y<|sU 12 Y Y Y (dT h4) Y Y<|sQ (P1 Y (dT h4) Y) Y<|k0<|J5 Y Y<|sSR Y<|sA Y Y<|k0<|L1 [] Tryz.func71 Tryz.results71 (rT Y) ⟨Y,Y⟩
   ·refine sG 12 Y Y Y (dF h4) Y (dMv Y) Y<|y5 fun h5=>sG 12 Y Y Y (dF h4) Y (Gh Tryz.underlying9 Y Y (by decide) h5) Y<|f4 fun r6 e7=>sG 12 Y Y Y (dF h4) Y (Q5 ent85 (zc K _) e7 (.s Y .nil)) Y<|sG 12 Y Y Y (dF h4) Y (Qb Y) Y<|sQ (Q1 Y (dF h4) Y) Y<|k0<|L8 Y (fun h8=>?_) (fun h8=>?_)
    ·refine sSR Y<|sA Y Y<|k0<|L1 [] Tryz.func71 Tryz.results71 (rT Y) ⟨Y,Y⟩
    ·refine V1<|J1<|sSR Y<|sA Y Y<|k0<|ac (P7.l0 K s1) (fun (i9:Int) (_:Unit)=>([(0,.lit (.string s1)),(3,Ai .i64 i9)]:Fr)) (fun (i9:Int) (_:Unit)=>([]:List Res)) () (fun _=>Y) [] ⟨Y,Y,trivial⟩ Y ?_ ?_
     ·rintro i9 _
      refine sSR Y<|sA Y Y<|k0<|L1 [] Tryz.func71 Tryz.results71 (rT Y) ⟨Y,Y⟩
     ·rintro m i9 _ again0 out0
      refine J1<|sSR Y<|sM Y Y<|sM Y Y<|sQ (fc Tryz.underlying9 Y) Y<|sQ (dLt Y Y) Y<|k0<|M2 Y (fun h10=>?_) (fun h10=>?_)
      ·refine V1<|J1<|J7<|sSR Y<|sM Y Y<|sM Y Y<|y5 fun h11=>sQ (Gh Tryz.underlying9 Y Y h11 h10) Y<|f4 fun r12 e13=>sQ (Q5 ent85 (zc K _) e13 (.s Y .nil)) Y<|sQ (Qb Y) Y<|sM Y Y<|y4 (fun h14=>?_) (fun h14=>?_)
       ·refine sG 5 Y Y Y h14 Y (dMv Y) Y<|sG 5 Y Y Y h14 Y (dMv Y) Y<|sG 5 Y Y Y h14 Y (Gh Tryz.underlying9 Y Y h11 h10) Y<|f4 fun r15 e16=>sG 5 Y Y Y h14 Y (Q5 ent86 (Me K _) e16 (.s Y .nil)) Y<|sG 5 Y Y Y h14 Y (Qb Y) Y<|sQ (P1 Y h14 Y) Y<|k0<|L8 Y (fun h17=>?_) (fun h17=>?_)
        ·refine sSR Y<|sA Y Y<|k0<|ja<|L1 [] Tryz.func71 Tryz.results71 (rT Y) ⟨Y,Y⟩
        ·refine V1<|W1<|L3 Y<|sM Y Y<|sQ (M4 Y Y) Y<|sA Y Y<|k0<|Q2 (again0 (IntKind.wrap .i64 (i9+1)) ()) [] ⟨Y,Y,trivial⟩ Y
       ·refine sU 5 Y Y Y (eF h14) Y Y<|sU 5 Y Y Y (eF h14) Y Y<|sU 5 Y Y Y (eF h14) Y Y<|sU 5 Y Y Y (eF h14) Y Y<|sU 5 Y Y Y (eF h14) Y Y<|sQ (Q1 Y (eF h14) Y) Y<|k0<|Q9 Y Y<|V1<|W1<|L3 Y<|sM Y Y<|sQ (M4 Y Y) Y<|sA Y Y<|k0<|Q2 (again0 (IntKind.wrap .i64 (i9+1)) ()) [] ⟨Y,Y,trivial⟩ Y
      ·refine P5 Y<|Q2 (out0 i9 ()) [] ⟨Y,Y,trivial⟩ Y
def J8.l0 (K:Nat) (names1:(List ByteArray)) (s2:ByteArray):Nat→Int→Option (Int ⊕ Int)
 | 0,_=>none
 | m+1,i3=>if i3<(names1.length:Int) then if 0≤i3 then if (rd names1 i3)=s2 then some (.inr i3) else J8.l0 K names1 s2 m (IntKind.wrap .i64 (i3+1)) else none else some (.inl i3)
def J8 (K:Nat) (names1:(List ByteArray)) (s2:ByteArray):Option Int:=brk (J8.l0 K names1 s2 K 0) fun i3=>some (-1)
theorem af (K:Nat) (names1:(List ByteArray)) (s2:ByteArray):Pure Tryz.prog 72 [.fsl cS names1,.lit (.string s2)] (J8 K names1 s2) (fun r=>Ai .i64 r):=by
 refine spec_of' Tryz.func72 rfl Tryz.ntmps72 (le_ rfl) ?_
 refine sSR Y<|sA Y Y<|k0<|J1<|sSR Y<|sA Y Y<|k0<|ac (J8.l0 K names1 s2) (fun (i3:Int) (_:Unit)=>([(0,.fsl cS names1),(1,.lit (.string s2)),(5,Ai .i64 i3)]:Fr)) (fun (i3:Int) (_:Unit)=>([]:List Res)) () (fun _=>Y) [] ⟨Y,Y,Y,trivial⟩ Y ?_ ?_
 ·rintro i3 _
  refine sSR Y<|sA Y Y<|k0<|L1 [] Tryz.func72 Tryz.results72 (rT Y) ⟨Y,Y⟩
 ·rintro m i3 _ again0 out0
  refine J1<|sSR Y<|sM Y Y<|sM Y Y<|sQ (L7 Tryz.underlying22 Y) Y<|sQ (dLt Y Y) Y<|k0<|M2 Y (fun h4=>?_) (fun h4=>?_)
  ·refine V1<|J1<|J7<|sSR Y<|sM Y Y<|sM Y Y<|y5 fun h5=>sQ (dIx Tryz.underlying22 z9 Y Y h5 h4) Y<|sQ (dLd g9 Y Y) Y<|sM Y Y<|sQ (gj Y Y) Y<|k0<|M2 Y (fun h6=>?_) (fun h6=>?_)
   ·refine sSR Y<|sM Y Y<|sA Y Y<|k0<|ja<|L1 [] Tryz.func72 Tryz.results72 (rT Y) ⟨Y,Y⟩
   ·refine V1<|W1<|L3 Y<|sM Y Y<|sQ (M4 Y Y) Y<|sA Y Y<|k0<|Q2 (again0 (IntKind.wrap .i64 (i3+1)) ()) [] ⟨Y,Y,Y,trivial⟩ Y
  ·refine P5 Y<|Q2 (out0 i3 ()) [] ⟨Y,Y,Y,trivial⟩ Y
def Wa (K:Nat) (x1:Symbol) (names2:Int):Option Bool:=if x1.Name=(-1) then (if 0≤x1.Lo then if x1.Lo≤x1.Hi then some (decide (x1.Hi≤255)) else some false else some false).bind fun t4=>some t4 else if 0≤x1.Name then if x1.Name<names2 then if x1.Lo=0 then some (decide (x1.Hi=0)) else some false else some false else some false
theorem Vd (K:Nat) (x1:Symbol) (names2:Int):Pure Tryz.prog 87 [.agg (cSymbol.e x1),Ai .i64 names2] (Wa K x1 names2) (fun r=>Ab r):=by
 refine spec_of' Tryz.func87 rfl Tryz.ntmps87 (le_ rfl) ?_
 refine sSR Y<|sQ (Ma (az:=cSymbol.e x1) Y cAgg) Y<|sA Y Y<|k0<|J1<|sSR Y<|sQ (dFA fa81_0 Y) Y<|sQ (dLd g3 Y Y) Y<|sQ (dEq Y Y) Y<|k0<|M2 Y (fun h3=>?_) (fun h3=>?_)
 ·refine J1<|pc (fun (t4:Bool) (_:Unit)=>([(4,Ab t4)]:Fr)) (fun (t4:Bool) (_:Unit)=>([]:List Res)) ?_ ?_
  ·rintro t4 _
   refine L1 [] Tryz.func87 Tryz.results87 (rT Y) ⟨Y,Y⟩
  ·intro join4
   refine L3 Y<|sQ (dFA fa81_1 Y) Y<|sQ (dLd g3 Y Y) Y<|sQ (dGe Y Y) Y<|sM Y Y<|y4 (fun h6=>?_) (fun h6=>?_)
   ·refine sG 3 Y Y Y (dT h6) Y (dFA fa81_1 Y) Y<|sG 3 Y Y Y (dT h6) Y (dLd g3 Y Y) Y<|sG 3 Y Y Y (dT h6) Y (dFA fa81_2 Y) Y<|sG 3 Y Y Y (dT h6) Y (dLd g3 Y Y) Y<|sG 3 Y Y Y (dT h6) Y (dLe Y Y) Y<|sQ (P1 Y (dT h6) Y) Y<|sM Y Y<|y4 (fun h7=>?_) (fun h7=>?_)
    ·refine sG 10 Y Y Y (dT h7) Y (dFA fa81_2 Y) Y<|sG 10 Y Y Y (dT h7) Y (dLd g3 Y Y) Y<|sG 10 Y Y Y (dT h7) Y (dLe Y Y) Y<|sQ (P1 Y (dT h7) Y) Y<|sA Y Y<|k0<|Q2 (join4 (decide (x1.Hi≤255)) ()) [] ⟨Y,trivial⟩ Y
    ·refine sU 10 Y Y Y (dF h7) Y Y<|sU 10 Y Y Y (dF h7) Y Y<|sU 10 Y Y Y (dF h7) Y Y<|sQ (Q1 Y (dF h7) Y) Y<|sA Y Y<|k0<|Q2 (join4 false ()) [] ⟨Y,trivial⟩ Y
   ·refine sU 3 Y Y Y (dF h6) Y Y<|sU 3 Y Y Y (dF h6) Y Y<|sU 3 Y Y Y (dF h6) Y Y<|sU 3 Y Y Y (dF h6) Y Y<|sU 3 Y Y Y (dF h6) Y Y<|sQ (Q1 Y (dF h6) Y) Y<|sM Y Y<|sU 10 Y Y Y Y Y Y<|sU 10 Y Y Y Y Y Y<|sU 10 Y Y Y Y Y Y<|sQ (Q1 Y Y Y) Y<|sA Y Y<|k0<|Q2 (join4 false ()) [] ⟨Y,trivial⟩ Y
 ·refine V1<|sSR Y<|sQ (dFA fa81_0 Y) Y<|sQ (dLd g3 Y Y) Y<|sQ (dGe Y Y) Y<|sM Y Y<|y4 (fun h8=>?_) (fun h8=>?_)
  ·refine sG 3 Y Y Y (dT h8) Y (dFA fa81_0 Y) Y<|sG 3 Y Y Y (dT h8) Y (dLd g3 Y Y) Y<|sG 3 Y Y Y (dT h8) Y (dMv Y) Y<|sG 3 Y Y Y (dT h8) Y (dLt Y Y) Y<|sQ (P1 Y (dT h8) Y) Y<|sM Y Y<|y4 (fun h9=>?_) (fun h9=>?_)
   ·refine sG 9 Y Y Y (dT h9) Y (dFA fa81_1 Y) Y<|sG 9 Y Y Y (dT h9) Y (dLd g3 Y Y) Y<|sG 9 Y Y Y (dT h9) Y (dEq Y Y) Y<|sQ (P1 Y (dT h9) Y) Y<|sM Y Y<|y4 (fun h10=>?_) (fun h10=>?_)
    ·refine sG 14 Y Y Y (dT h10) Y (dFA fa81_2 Y) Y<|sG 14 Y Y Y (dT h10) Y (dLd g3 Y Y) Y<|sG 14 Y Y Y (dT h10) Y (dEq Y Y) Y<|sQ (P1 Y (dT h10) Y) Y<|sA Y Y<|k0<|L1 [] Tryz.func87 Tryz.results87 (rT Y) ⟨Y,Y⟩
    ·refine sU 14 Y Y Y (dF h10) Y Y<|sU 14 Y Y Y (dF h10) Y Y<|sU 14 Y Y Y (dF h10) Y Y<|sQ (Q1 Y (dF h10) Y) Y<|sA Y Y<|k0<|L1 [] Tryz.func87 Tryz.results87 (rT Y) ⟨Y,Y⟩
   ·refine sU 9 Y Y Y (dF h9) Y Y<|sU 9 Y Y Y (dF h9) Y Y<|sU 9 Y Y Y (dF h9) Y Y<|sQ (Q1 Y (dF h9) Y) Y<|sM Y Y<|sU 14 Y Y Y Y Y Y<|sU 14 Y Y Y Y Y Y<|sU 14 Y Y Y Y Y Y<|sQ (Q1 Y Y Y) Y<|sA Y Y<|k0<|L1 [] Tryz.func87 Tryz.results87 (rT Y) ⟨Y,Y⟩
  ·refine sU 3 Y Y Y (dF h8) Y Y<|sU 3 Y Y Y (dF h8) Y Y<|sU 3 Y Y Y (dF h8) Y Y<|sU 3 Y Y Y (dF h8) Y Y<|sQ (Q1 Y (dF h8) Y) Y<|sM Y Y<|sU 9 Y Y Y Y Y Y<|sU 9 Y Y Y Y Y Y<|sU 9 Y Y Y Y Y Y<|sQ (Q1 Y Y Y) Y<|sM Y Y<|sU 14 Y Y Y Y Y Y<|sU 14 Y Y Y Y Y Y<|sU 14 Y Y Y Y Y Y<|sQ (Q1 Y Y Y) Y<|sA Y Y<|k0<|L1 [] Tryz.func87 Tryz.results87 (rT Y) ⟨Y,Y⟩
def G5.l1 (K:Nat) (r1:Rule) (names2:Int) (i6:Int):Nat→Int→Option (Int ⊕ ((Int×Int) ⊕ (Int×Bool)))
 | 0,_=>none
 | m+1,j10=>if j10<(((rd r1.Conj i6).Seq).length:Int) then if 0≤j10 then (Wa K (rd ((rd r1.Conj i6).Seq) j10) names2).bind fun r13=>if (!r13)=true then some (.inr (.inr (0,false))) else G5.l1 K r1 names2 i6 m (IntKind.wrap .i64 (j10+1)) else none else some (.inl j10)
def G5.l0 (K:Nat) (r1:Rule) (names2:Int):Nat→(Int×Int)→Option ((Int×Int) ⊕ (Int×Bool))
 | 0,_=>none
 | m+1,(k5,i6)=>if i6<(r1.Conj.length:Int) then if 0≤i6 then if 64<(((rd r1.Conj i6).Seq).length:Int) then some (.inr (0,false)) else brk (G5.l1 K r1 names2 i6 K 0) fun j10=>G5.l0 K r1 names2 m (IntKind.wrap .i64 (k5+(((rd r1.Conj i6).Seq).length:Int)),IntKind.wrap .i64 (i6+1)) else none else some (.inl (k5,i6))
def G5 (K:Nat) (r1:Rule) (names2:Int):Option (Int×Bool):=if (r1.Conj.length:Int)<1 then some (0,false) else if 8<(r1.Conj.length:Int) then some (0,false) else brk (G5.l0 K r1 names2 K (0,0)) fun (k5,i6)=>some (k5,true)
theorem re (K:Nat) (r1:Rule) (names2:Int):Pure Tryz.prog 73 [.agg (cRule.e r1),Ai .i64 names2] (G5 K r1 names2) (fun r=>.tup [Ai .i64 r.1,Ab r.2]):=by
 refine spec_of' Tryz.func73 rfl Tryz.ntmps73 (le_ rfl) ?_
 refine sSR Y<|sQ (Ma (az:=cRule.e r1) Y cAgg) Y<|sA Y Y<|sA Y Y<|sES Y<|sA Y Y<|k0<|J1<|sSR Y<|sQ (dFA fa46_1 Y) Y<|sQ (dLd g44 Y Y) Y<|sQ (L7 Tryz.underlying44 Y) Y<|sQ (dLt Y Y) Y<|sM Y Y<|y4 (fun h3=>?_) (fun h3=>?_)
 ·refine sU 4 Y Y Y (dT h3) Y Y<|sU 4 Y Y Y (dT h3) Y Y<|sU 4 Y Y Y (dT h3) Y Y<|sU 4 Y Y Y (dT h3) Y Y<|sQ (P1 Y (dT h3) Y) Y<|k0<|J5 Y Y<|sSR Y<|sA Y Y<|sA Y Y<|k0<|Jb [] Tryz.func73 Tryz.results73 (rT Y) (rT Y) ⟨Y,Y⟩
 ·refine sG 4 Y Y Y (dF h3) Y (dFA fa46_1 Y) Y<|sG 4 Y Y Y (dF h3) Y (dLd g44 Y Y) Y<|sG 4 Y Y Y (dF h3) Y (L7 Tryz.underlying44 Y) Y<|sG 4 Y Y Y (dF h3) Y (dGt Y Y) Y<|sQ (Q1 Y (dF h3) Y) Y<|k0<|M2 Y (fun h4=>?_) (fun h4=>?_)
  ·refine sSR Y<|sA Y Y<|sA Y Y<|k0<|Jb [] Tryz.func73 Tryz.results73 (rT Y) (rT Y) ⟨Y,Y⟩
  ·refine V1<|J1<|sSR Y<|sA Y Y<|k0<|ac (G5.l0 K r1 names2) (fun ((k5,i6):(Int×Int)) (_:Unit)=>([(1,Ai .i64 names2),(2,.fptr ((cRule.e r1))),(6,Ai .i64 k5),(7,Ai .i64 i6)]:Fr)) (fun ((k5,i6):(Int×Int)) (_:Unit)=>([]:List Res)) () (fun _=>Y) [] ⟨Y,Y,Y,Y,trivial⟩ Y ?_ ?_
   ·rintro ⟨k5,i6⟩ _
    refine sSR Y<|sM Y Y<|sA Y Y<|sA Y Y<|k0<|Jb [] Tryz.func73 Tryz.results73 (rT Y) (rT Y) ⟨Y,Y⟩
   ·rintro m ⟨k5,i6⟩ _ again0 out0
    refine J1<|sSR Y<|sM Y Y<|sQ (dFA fa46_1 Y) Y<|sQ (dLd g44 Y Y) Y<|sQ (L7 Tryz.underlying44 Y) Y<|sQ (dLt Y Y) Y<|k0<|M2 Y (fun h7=>?_) (fun h7=>?_)
    ·refine V1<|J1<|J7<|sSR Y<|sQ (dFA fa46_1 Y) Y<|sQ (dLd g44 Y Y) Y<|sM Y Y<|y5 fun h8=>sQ (dIx Tryz.underlying44 z49 Y Y h8 h7) Y<|sQ (dFA fa49_1 Y) Y<|sQ (dLd g47 Y Y) Y<|sA Y Y<|k0<|J1<|sSR Y<|sM Y Y<|sQ (L7 Tryz.underlying47 Y) Y<|sQ (dGt Y Y) Y<|k0<|M2 Y (fun h9=>?_) (fun h9=>?_)
     ·refine sSR Y<|sA Y Y<|sA Y Y<|k0<|ja<|Jb [] Tryz.func73 Tryz.results73 (rT Y) (rT Y) ⟨Y,Y⟩
     ·refine V1<|J1<|sSR Y<|sA Y Y<|k0<|ac (G5.l1 K r1 names2 i6) (fun (j10:Int) (_:Unit)=>([(1,Ai .i64 names2),(2,.fptr ((cRule.e r1))),(6,Ai .i64 k5),(7,Ai .i64 i6),(8,.fsl cSymbol ((rd r1.Conj i6).Seq)),(9,Ai .i64 j10)]:Fr)) (fun (j10:Int) (_:Unit)=>([]:List Res)) () (fun _=>Y) [] ⟨Y,Y,Y,Y,Y,Y,trivial⟩ Y ?_ ?_
      ·rintro j10 _
       refine L3 Y<|sM Y Y<|sM Y Y<|sQ (L7 Tryz.underlying47 Y) Y<|sQ (M4 Y Y) Y<|sA Y Y<|k0<|W1<|L3 Y<|sM Y Y<|sQ (M4 Y Y) Y<|sA Y Y<|k0<|Q2 (again0 (IntKind.wrap .i64 (k5+(((rd r1.Conj i6).Seq).length:Int)),IntKind.wrap .i64 (i6+1)) ()) [] ⟨Y,Y,Y,Y,trivial⟩ Y
      ·rintro m j10 _ again1 out1
       refine J1<|sSR Y<|sM Y Y<|sM Y Y<|sQ (L7 Tryz.underlying47 Y) Y<|sQ (dLt Y Y) Y<|k0<|M2 Y (fun h11=>?_) (fun h11=>?_)
       ·refine V1<|J1<|J7<|sSR Y<|sM Y Y<|sM Y Y<|y5 fun h12=>sQ (dIx Tryz.underlying47 z81 Y Y h12 h11) Y<|sQ (va g81 z81 Y (le_ Y)) Y<|sM Y Y<|f4 fun r13 e14=>sQ (Q5 ent87 (Vd K _ _) e14 (.s Y<|.s Y .nil)) Y<|sQ (Qb Y) Y<|k0<|L8 Y (fun h15=>?_) (fun h15=>?_)
        ·refine sSR Y<|sA Y Y<|sA Y Y<|k0<|ja<|ja<|Jb [] Tryz.func73 Tryz.results73 (rT Y) (rT Y) ⟨Y,Y⟩
        ·refine V1<|W1<|L3 Y<|sM Y Y<|sQ (M4 Y Y) Y<|sA Y Y<|k0<|Q2 (again1 (IntKind.wrap .i64 (j10+1)) ()) [] ⟨Y,Y,Y,Y,Y,Y,trivial⟩ Y
       ·refine P5 Y<|Q2 (out1 j10 ()) [] ⟨Y,Y,Y,Y,Y,Y,trivial⟩ Y
    ·refine P5 Y<|Q2 (out0 (k5,i6) ()) [] ⟨Y,Y,Y,Y,trivial⟩ Y
def L4.l1 (K:Nat) (g1:Grammar):Nat→(Int×Int×Int)→Option ((Int×Int×Int) ⊕ Bool)
 | 0,_=>none
 | m+1,(head17,many18,i19)=>if i19<(g1.Rules.length:Int) then if 0≤i19 then brk (if ((rd g1.Rules i19).Head)<0 then some (.inr (.inr false)) else if ((rd g1.Rules i19).Head)≠head17 then if ((rd g1.Rules i19).Head)≠(IntKind.wrap .i64 (head17+1)) then some (.inr (.inr false)) else if (g1.Names.length:Int)≤((rd g1.Rules i19).Head) then some (.inr (.inr false)) else some (.inl ()) else if (g1.Names.length:Int)≤((rd g1.Rules i19).Head) then some (.inr (.inr false)) else some (.inl ())) fun _=>(G5 K (rd g1.Rules i19) (g1.Names.length:Int)).bind fun r28=>if (!r28.2)=true then some (.inr false) else L4.l1 K g1 m ((rd g1.Rules i19).Head,IntKind.wrap .i64 (many18+r28.1),IntKind.wrap .i64 (i19+1)) else none else some (.inl (head17,many18,i19))
def L4.l0 (K:Nat) (g1:Grammar):Nat→Int→Option (Int ⊕ Bool)
 | 0,_=>none
 | m+1,i8=>if i8<(g1.Names.length:Int) then if 0≤i8 then (P7 K (rd g1.Names i8)).bind fun r11=>if (!r11)=true then some (.inr false) else (J8 K g1.Names (rd g1.Names i8)).bind fun r14=>if r14≠i8 then some (.inr false) else L4.l0 K g1 m (IntKind.wrap .i64 (i8+1)) else none else some (.inl i8)
def L4 (K:Nat) (g1:Grammar):Option Bool:=if (g1.Names.length:Int)<1 then some false else if 64<(g1.Names.length:Int) then some false else if g1.Start<0 then some false else if (g1.Names.length:Int)≤g1.Start then some false else if (g1.Rules.length:Int)<1 then some false else if 256<(g1.Rules.length:Int) then some false else brk (L4.l0 K g1 K 0) fun i8=>brk (L4.l1 K g1 K ((-1),0,0)) fun (head17,many18,i19)=>if head17=(IntKind.wrap .i64 ((g1.Names.length:Int)-1)) then some (decide (many18≤1024)) else some false
theorem tf (K:Nat) (g1:Grammar):Pure Tryz.prog 47 [.agg (cGrammar.e g1)] (L4 K g1) (fun r=>Ab r):=by
 refine spec_of' Tryz.func47 rfl Tryz.ntmps47 (le_ rfl) ?_
 refine sSR Y<|sQ (Ma (az:=cGrammar.e g1) Y cAgg) Y<|sA Y Y<|k0<|J1<|sSR Y<|sQ (dFA fa25_1 Y) Y<|sQ (dLd g22 Y Y) Y<|sQ (L7 Tryz.underlying22 Y) Y<|sQ (dLt Y Y) Y<|sM Y Y<|y4 (fun h2=>?_) (fun h2=>?_)
 ·refine sU 4 Y Y Y (dT h2) Y Y<|sU 4 Y Y Y (dT h2) Y Y<|sU 4 Y Y Y (dT h2) Y Y<|sU 4 Y Y Y (dT h2) Y Y<|sQ (P1 Y (dT h2) Y) Y<|sM Y Y<|sU 10 Y Y Y Y Y Y<|sU 10 Y Y Y Y Y Y<|sU 10 Y Y Y Y Y Y<|sQ (P1 Y Y Y) Y<|sM Y Y<|sU 15 Y Y Y Y Y Y<|sU 15 Y Y Y Y Y Y<|sU 15 Y Y Y Y Y Y<|sU 15 Y Y Y Y Y Y<|sU 15 Y Y Y Y Y Y<|sU 15 Y Y Y Y Y Y<|sQ (P1 Y Y Y) Y<|sM Y Y<|sU 23 Y Y Y Y Y Y<|sU 23 Y Y Y Y Y Y<|sU 23 Y Y Y Y Y Y<|sU 23 Y Y Y Y Y Y<|sQ (P1 Y Y Y) Y<|sM Y Y<|sU 29 Y Y Y Y Y Y<|sU 29 Y Y Y Y Y Y<|sU 29 Y Y Y Y Y Y<|sU 29 Y Y Y Y Y Y<|sQ (P1 Y Y Y) Y<|k0<|J5 Y Y<|sSR Y<|sA Y Y<|k0<|L1 [] Tryz.func47 Tryz.results47 (rT Y) ⟨Y,Y⟩
 ·refine sG 4 Y Y Y (dF h2) Y (dFA fa25_1 Y) Y<|sG 4 Y Y Y (dF h2) Y (dLd g22 Y Y) Y<|sG 4 Y Y Y (dF h2) Y (L7 Tryz.underlying22 Y) Y<|sG 4 Y Y Y (dF h2) Y (dGt Y Y) Y<|sQ (Q1 Y (dF h2) Y) Y<|sM Y Y<|y4 (fun h3=>?_) (fun h3=>?_)
  ·refine sU 10 Y Y Y (dT h3) Y Y<|sU 10 Y Y Y (dT h3) Y Y<|sU 10 Y Y Y (dT h3) Y Y<|sQ (P1 Y (dT h3) Y) Y<|sM Y Y<|sU 15 Y Y Y Y Y Y<|sU 15 Y Y Y Y Y Y<|sU 15 Y Y Y Y Y Y<|sU 15 Y Y Y Y Y Y<|sU 15 Y Y Y Y Y Y<|sU 15 Y Y Y Y Y Y<|sQ (P1 Y Y Y) Y<|sM Y Y<|sU 23 Y Y Y Y Y Y<|sU 23 Y Y Y Y Y Y<|sU 23 Y Y Y Y Y Y<|sU 23 Y Y Y Y Y Y<|sQ (P1 Y Y Y) Y<|sM Y Y<|sU 29 Y Y Y Y Y Y<|sU 29 Y Y Y Y Y Y<|sU 29 Y Y Y Y Y Y<|sU 29 Y Y Y Y Y Y<|sQ (P1 Y Y Y) Y<|k0<|J5 Y Y<|sSR Y<|sA Y Y<|k0<|L1 [] Tryz.func47 Tryz.results47 (rT Y) ⟨Y,Y⟩
  ·refine sG 10 Y Y Y (dF h3) Y (dFA fa25_0 Y) Y<|sG 10 Y Y Y (dF h3) Y (dLd g3 Y Y) Y<|sG 10 Y Y Y (dF h3) Y (dLt Y Y) Y<|sQ (Q1 Y (dF h3) Y) Y<|sM Y Y<|y4 (fun h4=>?_) (fun h4=>?_)
   ·refine sU 15 Y Y Y (dT h4) Y Y<|sU 15 Y Y Y (dT h4) Y Y<|sU 15 Y Y Y (dT h4) Y Y<|sU 15 Y Y Y (dT h4) Y Y<|sU 15 Y Y Y (dT h4) Y Y<|sU 15 Y Y Y (dT h4) Y Y<|sQ (P1 Y (dT h4) Y) Y<|sM Y Y<|sU 23 Y Y Y Y Y Y<|sU 23 Y Y Y Y Y Y<|sU 23 Y Y Y Y Y Y<|sU 23 Y Y Y Y Y Y<|sQ (P1 Y Y Y) Y<|sM Y Y<|sU 29 Y Y Y Y Y Y<|sU 29 Y Y Y Y Y Y<|sU 29 Y Y Y Y Y Y<|sU 29 Y Y Y Y Y Y<|sQ (P1 Y Y Y) Y<|k0<|J5 Y Y<|sSR Y<|sA Y Y<|k0<|L1 [] Tryz.func47 Tryz.results47 (rT Y) ⟨Y,Y⟩
   ·refine sG 15 Y Y Y (dF h4) Y (dFA fa25_0 Y) Y<|sG 15 Y Y Y (dF h4) Y (dLd g3 Y Y) Y<|sG 15 Y Y Y (dF h4) Y (dFA fa25_1 Y) Y<|sG 15 Y Y Y (dF h4) Y (dLd g22 Y Y) Y<|sG 15 Y Y Y (dF h4) Y (L7 Tryz.underlying22 Y) Y<|sG 15 Y Y Y (dF h4) Y (dGe Y Y) Y<|sQ (Q1 Y (dF h4) Y) Y<|sM Y Y<|y4 (fun h5=>?_) (fun h5=>?_)
    ·refine sU 23 Y Y Y (dT h5) Y Y<|sU 23 Y Y Y (dT h5) Y Y<|sU 23 Y Y Y (dT h5) Y Y<|sU 23 Y Y Y (dT h5) Y Y<|sQ (P1 Y (dT h5) Y) Y<|sM Y Y<|sU 29 Y Y Y Y Y Y<|sU 29 Y Y Y Y Y Y<|sU 29 Y Y Y Y Y Y<|sU 29 Y Y Y Y Y Y<|sQ (P1 Y Y Y) Y<|k0<|J5 Y Y<|sSR Y<|sA Y Y<|k0<|L1 [] Tryz.func47 Tryz.results47 (rT Y) ⟨Y,Y⟩
    ·refine sG 23 Y Y Y (dF h5) Y (dFA fa25_2 Y) Y<|sG 23 Y Y Y (dF h5) Y (dLd g23 Y Y) Y<|sG 23 Y Y Y (dF h5) Y (L7 Tryz.underlying23 Y) Y<|sG 23 Y Y Y (dF h5) Y (dLt Y Y) Y<|sQ (Q1 Y (dF h5) Y) Y<|sM Y Y<|y4 (fun h6=>?_) (fun h6=>?_)
     ·refine sU 29 Y Y Y (dT h6) Y Y<|sU 29 Y Y Y (dT h6) Y Y<|sU 29 Y Y Y (dT h6) Y Y<|sU 29 Y Y Y (dT h6) Y Y<|sQ (P1 Y (dT h6) Y) Y<|k0<|J5 Y Y<|sSR Y<|sA Y Y<|k0<|L1 [] Tryz.func47 Tryz.results47 (rT Y) ⟨Y,Y⟩
     ·refine sG 29 Y Y Y (dF h6) Y (dFA fa25_2 Y) Y<|sG 29 Y Y Y (dF h6) Y (dLd g23 Y Y) Y<|sG 29 Y Y Y (dF h6) Y (L7 Tryz.underlying23 Y) Y<|sG 29 Y Y Y (dF h6) Y (dGt Y Y) Y<|sQ (Q1 Y (dF h6) Y) Y<|k0<|M2 Y (fun h7=>?_) (fun h7=>?_)
      ·refine sSR Y<|sA Y Y<|k0<|L1 [] Tryz.func47 Tryz.results47 (rT Y) ⟨Y,Y⟩
      ·refine V1<|J1<|sSR Y<|sA Y Y<|k0<|ac (L4.l0 K g1) (fun (i8:Int) (_:Unit)=>([(1,.fptr ((cGrammar.e g1))),(3,Ai .i64 i8)]:Fr)) (fun (i8:Int) (_:Unit)=>([]:List Res)) () (fun _=>Y) [] ⟨Y,Y,trivial⟩ Y ?_ ?_
       ·rintro i8 _
        refine sSR Y<|sA Y Y<|sA Y Y<|k0<|J1<|sSR Y<|sA Y Y<|k0<|ac (L4.l1 K g1) (fun ((head17,many18,i19):(Int×Int×Int)) (_:Unit)=>([(1,.fptr ((cGrammar.e g1))),(4,Ai .i64 head17),(5,Ai .i64 many18),(6,Ai .i64 i19)]:Fr)) (fun ((head17,many18,i19):(Int×Int×Int)) (_:Unit)=>([]:List Res)) () (fun _=>Y) [] ⟨Y,Y,Y,Y,trivial⟩ Y ?_ ?_
        ·rintro ⟨head17,many18,i19⟩ _
         refine sSR Y<|sM Y Y<|sQ (dFA fa25_1 Y) Y<|sQ (dLd g22 Y Y) Y<|sQ (L7 Tryz.underlying22 Y) Y<|sQ (Ve Y Y) Y<|sQ (dEq Y Y) Y<|sM Y Y<|y4 (fun h31=>?_) (fun h31=>?_)
         ·refine sG 6 Y Y Y (dT h31) Y (dMv Y) Y<|sG 6 Y Y Y (dT h31) Y (dLe Y Y) Y<|sQ (P1 Y (dT h31) Y) Y<|sA Y Y<|k0<|L1 [] Tryz.func47 Tryz.results47 (rT Y) ⟨Y,Y⟩
         ·refine sU 6 Y Y Y (dF h31) Y Y<|sU 6 Y Y Y (dF h31) Y Y<|sQ (Q1 Y (dF h31) Y) Y<|sA Y Y<|k0<|L1 [] Tryz.func47 Tryz.results47 (rT Y) ⟨Y,Y⟩
        ·rintro m ⟨head17,many18,i19⟩ _ again1 out1
         refine J1<|sSR Y<|sM Y Y<|sQ (dFA fa25_2 Y) Y<|sQ (dLd g23 Y Y) Y<|sQ (L7 Tryz.underlying23 Y) Y<|sQ (dLt Y Y) Y<|k0<|M2 Y (fun h20=>?_) (fun h20=>?_)
         ·refine V1<|J1<|J7<|sSR Y<|sQ (dFA fa25_2 Y) Y<|sQ (dLd g23 Y Y) Y<|sM Y Y<|y5 fun h21=>sQ (dIx Tryz.underlying23 z46 Y Y h21 h20) Y<|sQ (dFA fa46_0 Y) Y<|sQ (dLd g3 Y Y) Y<|sA Y Y<|k0<|J1<|J1<|Ji (fun (_:Unit) (_:Unit)=>([(1,.fptr ((cGrammar.e g1))),(5,Ai .i64 many18),(6,Ai .i64 i19),(7,Ai .i64 ((rd g1.Rules i19).Head))]:Fr)) (fun (_:Unit) (_:Unit)=>([]:List Res)) ?_ ?_
          ·rintro _ _
           refine sSR Y<|sM Y Y<|sA Y Y<|k0<|J1<|mb fun r28 e29=>g7 14 mixed Y (by kernel_rfl) (by kernel_rfl) (by kernel_rfl) (.r (dFA fa25_2 Y) Y<|.r (dLd g23 Y Y) Y<|.m Y Y<|.r (dIx Tryz.underlying23 z46 Y Y h21 h20) Y<|.r (va g46 z46 Y (le_ Y)) Y<|.r (dFA fa25_1 Y) Y<|.r (dLd g22 Y Y) Y<|.r (L7 Tryz.underlying22 Y) Y<|.r (Q5 ent73 (re K _ _) e29 (.s Y<|.s Y .nil)) Y<|.m Y Y<|.r (dX Y Y) Y<|.r (dX Y Y) Y<|.r (dAs Y) Y<|.r (dAs Y) Y .n) Y<|k0<|J1<|sSR Y<|sM Y Y<|sQ (Qb Y) Y<|k0<|L8 Y (fun h30=>?_) (fun h30=>?_)
           ·refine sSR Y<|sA Y Y<|k0<|ja<|L1 [] Tryz.func47 Tryz.results47 (rT Y) ⟨Y,Y⟩
           ·refine V1<|L3 Y<|sM Y Y<|sM Y Y<|sQ (M4 Y Y) Y<|sA Y Y<|k0<|W1<|L3 Y<|sM Y Y<|sQ (M4 Y Y) Y<|sA Y Y<|k0<|Q2 (again1 ((rd g1.Rules i19).Head,IntKind.wrap .i64 (many18+r28.1),IntKind.wrap .i64 (i19+1)) ()) [] ⟨Y,Y,Y,Y,trivial⟩ Y
          ·intro join21
           refine L3 Y<|sM Y Y<|sQ (dLt Y Y) Y<|sM Y Y<|y4 (fun h23=>?_) (fun h23=>?_)
           ·refine sU 2 Y Y Y (dT h23) Y Y<|sU 2 Y Y Y (dT h23) Y Y<|sU 2 Y Y Y (dT h23) Y Y<|sU 2 Y Y Y (dT h23) Y Y<|sQv (j:=6) Y Y Y Y Y<|sQv (j:=6) Y Y Y Y Y<|sQv (j:=6) Y Y Y Y Y<|sQv (j:=6) Y Y Y Y Y<|sU 2 Y Y Y (dT h23) Y Y<|sQ (P1 Y (dT h23) Y) Y<|sM Y Y<|sU 13 Y Y Y Y Y Y<|sU 13 Y Y Y Y Y Y<|sU 13 Y Y Y Y Y Y<|sU 13 Y Y Y Y Y Y<|sU 13 Y Y Y Y Y Y<|sQ (P1 Y Y Y) Y<|k0<|J5 Y Y<|sSR Y<|sA Y Y<|k0<|ja<|ja<|L1 [] Tryz.func47 Tryz.results47 (rT Y) ⟨Y,Y⟩
           ·refine sG 2 Y Y Y (dF h23) Y (dMv Y) Y<|sG 2 Y Y Y (dF h23) Y (dMv Y) Y<|sG 2 Y Y Y (dF h23) Y (dNe Y Y) Y<|sG 2 Y Y Y (dF h23) Y (dMv Y) Y<|y4 (fun h24=>?_) (fun h24=>?_)
            ·refine sG 6 Y Y Y (dT h24) Y (dMv Y) Y<|sG 6 Y Y Y (dT h24) Y (dMv Y) Y<|sG 6 Y Y Y (dT h24) Y (M4 Y Y) Y<|sG 6 Y Y Y (dT h24) Y (dNe Y Y) Y<|sG 2 Y Y Y (dF h23) Y (P1 Y (dT h24) Y) Y<|sQ (Q1 Y (dF h23) Y) Y<|sM Y Y<|y4 (fun h25=>?_) (fun h25=>?_)
             ·refine sU 13 Y Y Y (dT h25) Y Y<|sU 13 Y Y Y (dT h25) Y Y<|sU 13 Y Y Y (dT h25) Y Y<|sU 13 Y Y Y (dT h25) Y Y<|sU 13 Y Y Y (dT h25) Y Y<|sQ (P1 Y (dT h25) Y) Y<|k0<|J5 Y Y<|sSR Y<|sA Y Y<|k0<|ja<|ja<|L1 [] Tryz.func47 Tryz.results47 (rT Y) ⟨Y,Y⟩
             ·refine sG 13 Y Y Y (dF h25) Y (dMv Y) Y<|sG 13 Y Y Y (dF h25) Y (dFA fa25_1 Y) Y<|sG 13 Y Y Y (dF h25) Y (dLd g22 Y Y) Y<|sG 13 Y Y Y (dF h25) Y (L7 Tryz.underlying22 Y) Y<|sG 13 Y Y Y (dF h25) Y (dGe Y Y) Y<|sQ (Q1 Y (dF h25) Y) Y<|k0<|M2 Y (fun h26=>?_) (fun h26=>?_)
              ·refine sSR Y<|sA Y Y<|k0<|ja<|ja<|L1 [] Tryz.func47 Tryz.results47 (rT Y) ⟨Y,Y⟩
              ·refine V1<|Q2 (join21 () ()) [] ⟨Y,Y,Y,Y,trivial⟩ Y
            ·refine sU 6 Y Y Y (dF h24) Y Y<|sU 6 Y Y Y (dF h24) Y Y<|sU 6 Y Y Y (dF h24) Y Y<|sU 6 Y Y Y (dF h24) Y Y<|sG 2 Y Y Y (dF h23) Y (Q1 Y (dF h24) Y) Y<|sQ (Q1 Y (dF h23) Y) Y<|sM Y Y<|sG 13 Y Y Y Y Y (dMv Y) Y<|sG 13 Y Y Y Y Y (dFA fa25_1 Y) Y<|sG 13 Y Y Y Y Y (dLd g22 Y Y) Y<|sG 13 Y Y Y Y Y (L7 Tryz.underlying22 Y) Y<|sG 13 Y Y Y Y Y (dGe Y Y) Y<|sQ (Q1 Y Y Y) Y<|k0<|M2 Y (fun h27=>?_) (fun h27=>?_)
             ·refine sSR Y<|sA Y Y<|k0<|ja<|ja<|L1 [] Tryz.func47 Tryz.results47 (rT Y) ⟨Y,Y⟩
             ·refine V1<|Q2 (join21 () ()) [] ⟨Y,Y,Y,Y,trivial⟩ Y
         ·refine P5 Y<|Q2 (out1 (head17,many18,i19) ()) [] ⟨Y,Y,Y,Y,trivial⟩ Y
       ·rintro m i8 _ again0 out0
        refine J1<|sSR Y<|sM Y Y<|sQ (dFA fa25_1 Y) Y<|sQ (dLd g22 Y Y) Y<|sQ (L7 Tryz.underlying22 Y) Y<|sQ (dLt Y Y) Y<|k0<|M2 Y (fun h9=>?_) (fun h9=>?_)
        ·refine V1<|J1<|J7<|J1<|sIf fun h10=>mb fun r11 e12=>kc (fun h13=>?_) (fun h13=>?_)
         ·refine g7 19 mixed Y (by kernel_rfl) (by kernel_rfl) (by kernel_rfl) (.r (dFA fa25_1 Y) Y<|.r (dLd g22 Y Y) Y<|.m Y Y<|.r (dIx Tryz.underlying22 z9 Y Y h10 h9) Y<|.r (dLd g9 Y Y) Y<|.r (Q5 ent71 (tc K _) e12 (.s Y .nil)) Y<|.r (Qb Y) Y<|.m Y Y<|.w 7 Y Y Y h13 Y Y<|.w 7 Y Y Y h13 Y Y<|.w 7 Y Y Y h13 Y Y<|.w 7 Y Y Y h13 Y Y<|.w 7 Y Y Y h13 Y Y<|.w 7 Y Y Y h13 Y Y<|.w 7 Y Y Y h13 Y Y<|.w 7 Y Y Y h13 Y Y<|.w 7 Y Y Y h13 Y Y<|.w 7 Y Y Y h13 Y Y<|.r (P1 Y h13 Y) Y .n) Y<|k0<|J5 Y Y<|sSR Y<|sA Y Y<|k0<|ja<|L1 [] Tryz.func47 Tryz.results47 (rT Y) ⟨Y,Y⟩
         ·refine mb fun r14 e15=>g7 19 mixed Y (by kernel_rfl) (by kernel_rfl) (by kernel_rfl) (.r (dFA fa25_1 Y) Y<|.r (dLd g22 Y Y) Y<|.m Y Y<|.r (dIx Tryz.underlying22 z9 Y Y h10 h9) Y<|.r (dLd g9 Y Y) Y<|.r (Q5 ent71 (tc K _) e12 (.s Y .nil)) Y<|.r (Qb Y) Y<|.m Y Y<|.g 7 Y Y Y (eF h13) Y (dFA fa25_1 Y) Y<|.g 7 Y Y Y (eF h13) Y (dLd g22 Y Y) Y<|.g 7 Y Y Y (eF h13) Y (dFA fa25_1 Y) Y<|.g 7 Y Y Y (eF h13) Y (dLd g22 Y Y) Y<|.g 7 Y Y Y (eF h13) Y (dMv Y) Y<|.g 7 Y Y Y (eF h13) Y (dIx Tryz.underlying22 z9 Y Y h10 h9) Y<|.g 7 Y Y Y (eF h13) Y (dLd g9 Y Y) Y<|.g 7 Y Y Y (eF h13) Y (Q5 ent72 (af K _ _) e15 (.s Y<|.s Y .nil)) Y<|.g 7 Y Y Y (eF h13) Y (dMv Y) Y<|.g 7 Y Y Y (eF h13) Y (dNe Y Y) Y<|.r (Q1 Y (eF h13) Y) Y .n) Y<|k0<|M2 Y (fun h16=>?_) (fun h16=>?_)
          ·refine sSR Y<|sA Y Y<|k0<|ja<|L1 [] Tryz.func47 Tryz.results47 (rT Y) ⟨Y,Y⟩
          ·refine V1<|W1<|L3 Y<|sM Y Y<|sQ (M4 Y Y) Y<|sA Y Y<|k0<|Q2 (again0 (IntKind.wrap .i64 (i8+1)) ()) [] ⟨Y,Y,trivial⟩ Y
        ·refine P5 Y<|Q2 (out0 i8 ()) [] ⟨Y,Y,trivial⟩ Y
def Q3.l2 (K:Nat) (g1:Grammar) (b3:Int) (neg4:Bool) (i5:Int) (j9:Int):Nat→Int→Option (Int ⊕ (Int ⊕ (Int ⊕ Bool)))
 | 0,_=>none
 | m+1,k13=>if k13<(((rd ((rd g1.Rules i5).Conj) j9).Seq).length:Int) then if ((rd ((rd g1.Rules i5).Conj) j9).Neg)=neg4 then if 0≤k13 then if ((rd ((rd ((rd g1.Rules i5).Conj) j9).Seq) k13).Name)=b3 then some (.inr (.inr (.inr true))) else Q3.l2 K g1 b3 neg4 i5 j9 m (IntKind.wrap .i64 (k13+1)) else none else some (.inl k13) else some (.inl k13)
def Q3.l1 (K:Nat) (g1:Grammar) (b3:Int) (neg4:Bool) (i5:Int):Nat→Int→Option (Int ⊕ (Int ⊕ Bool))
 | 0,_=>none
 | m+1,j9=>if j9<(((rd g1.Rules i5).Conj).length:Int) then if 0≤j9 then brk (Q3.l2 K g1 b3 neg4 i5 j9 K 0) fun k13=>Q3.l1 K g1 b3 neg4 i5 m (IntKind.wrap .i64 (j9+1)) else none else some (.inl j9)
def Q3.l0 (K:Nat) (g1:Grammar) (a2:Int) (b3:Int) (neg4:Bool):Nat→Int→Option (Int ⊕ Bool)
 | 0,_=>none
 | m+1,i5=>if i5<(g1.Rules.length:Int) then if 0≤i5 then if ((rd g1.Rules i5).Head)≠a2 then Q3.l0 K g1 a2 b3 neg4 m (IntKind.wrap .i64 (i5+1)) else brk (Q3.l1 K g1 b3 neg4 i5 K 0) fun j9=>Q3.l0 K g1 a2 b3 neg4 m (IntKind.wrap .i64 (i5+1)) else none else some (.inl i5)
def Q3 (K:Nat) (g1:Grammar) (a2:Int) (b3:Int) (neg4:Bool):Option Bool:=brk (Q3.l0 K g1 a2 b3 neg4 K 0) fun i5=>some false
theorem Je (K:Nat) (g1:Grammar) (a2:Int) (b3:Int) (neg4:Bool):Pure Tryz.prog 48 [.agg (cGrammar.e g1),Ai .i64 a2,Ai .i64 b3,Ab neg4] (Q3 K g1 a2 b3 neg4) (fun r=>Ab r):=by
 refine spec_of' Tryz.func48 rfl Tryz.ntmps48 (le_ rfl) ?_
 refine sSR Y<|sQ (Ma (az:=cGrammar.e g1) Y cAgg) Y<|sA Y Y<|k0<|J1<|sSR Y<|sA Y Y<|k0<|ac (Q3.l0 K g1 a2 b3 neg4) (fun (i5:Int) (_:Unit)=>([(1,Ai .i64 a2),(2,Ai .i64 b3),(3,Ab neg4),(4,.fptr ((cGrammar.e g1))),(9,Ai .i64 i5)]:Fr)) (fun (i5:Int) (_:Unit)=>([]:List Res)) () (fun _=>Y) [] ⟨Y,Y,Y,Y,Y,trivial⟩ Y ?_ ?_
 ·rintro i5 _
  refine sSR Y<|sA Y Y<|k0<|L1 [] Tryz.func48 Tryz.results48 (rT Y) ⟨Y,Y⟩
 ·rintro m i5 _ again0 out0
  refine J1<|sSR Y<|sM Y Y<|sQ (dFA fa25_2 Y) Y<|sQ (dLd g23 Y Y) Y<|sQ (L7 Tryz.underlying23 Y) Y<|sQ (dLt Y Y) Y<|k0<|M2 Y (fun h6=>?_) (fun h6=>?_)
  ·refine V1<|J1<|J7<|J1<|sSR Y<|sQ (dFA fa25_2 Y) Y<|sQ (dLd g23 Y Y) Y<|sM Y Y<|y5 fun h7=>sQ (dIx Tryz.underlying23 z46 Y Y h7 h6) Y<|sQ (dFA fa46_0 Y) Y<|sQ (dLd g3 Y Y) Y<|sM Y Y<|sQ (dNe Y Y) Y<|k0<|M2 Y (fun h8=>?_) (fun h8=>?_)
   ·refine P5 Y<|L3 Y<|sM Y Y<|sQ (M4 Y Y) Y<|sA Y Y<|k0<|Q2 (again0 (IntKind.wrap .i64 (i5+1)) ()) [] ⟨Y,Y,Y,Y,Y,trivial⟩ Y
   ·refine V1<|sSR Y<|sA Y Y<|k0<|ac (Q3.l1 K g1 b3 neg4 i5) (fun (j9:Int) (_:Unit)=>([(1,Ai .i64 a2),(2,Ai .i64 b3),(3,Ab neg4),(4,.fptr ((cGrammar.e g1))),(9,Ai .i64 i5),(10,Ai .i64 j9)]:Fr)) (fun (j9:Int) (_:Unit)=>([]:List Res)) () (fun _=>Y) [] ⟨Y,Y,Y,Y,Y,Y,trivial⟩ Y ?_ ?_
    ·rintro j9 _
     refine W1<|L3 Y<|sM Y Y<|sQ (M4 Y Y) Y<|sA Y Y<|k0<|Q2 (again0 (IntKind.wrap .i64 (i5+1)) ()) [] ⟨Y,Y,Y,Y,Y,trivial⟩ Y
    ·rintro m j9 _ again1 out1
     refine J1<|sSR Y<|sM Y Y<|sQ (dFA fa25_2 Y) Y<|sQ (dLd g23 Y Y) Y<|sM Y Y<|sQ (dIx Tryz.underlying23 z46 Y Y h7 h6) Y<|sQ (dFA fa46_1 Y) Y<|sQ (dLd g44 Y Y) Y<|sQ (L7 Tryz.underlying44 Y) Y<|sQ (dLt Y Y) Y<|k0<|M2 Y (fun h10=>?_) (fun h10=>?_)
     ·refine V1<|J1<|J7<|sSR Y<|sQ (dFA fa25_2 Y) Y<|sQ (dLd g23 Y Y) Y<|sM Y Y<|sQ (dIx Tryz.underlying23 z46 Y Y h7 h6) Y<|sQ (dFA fa46_1 Y) Y<|sQ (dLd g44 Y Y) Y<|sM Y Y<|y5 fun h11=>sQ (dIx Tryz.underlying44 z49 Y Y h11 h10) Y<|sQ (va g49 z49 Y (le_ Y)) Y<|M8 (az:=[Ab false,.lit (.slice none 0 0)]) al49 (fun _ _=>.cons Y (.cons Y .nil)) Y fun b12=>V9 (j:=0) z49 Y Y Y cAgg ((cConjunct).one _) Y (le_ Y)<|sES Y<|sA Y Y<|k0<|ac (Q3.l2 K g1 b3 neg4 i5 j9) (fun (k13:Int) (_:Unit)=>([(1,Ai .i64 a2),(2,Ai .i64 b3),(3,Ab neg4),(4,.fptr ((cGrammar.e g1))),(9,Ai .i64 i5),(10,Ai .i64 j9),(11,.lit (.pointer (some ⟨b12,0,none⟩))),(12,Ai .i64 k13)]:Fr)) (fun (k13:Int) (_:Unit)=>([.box b12 [Ab ((rd ((rd g1.Rules i5).Conj) j9).Neg),.fsl cSymbol ((rd ((rd g1.Rules i5).Conj) j9).Seq)]]:List Res)) () (fun _=>Y) [] ⟨Y,Y,Y,Y,Y,Y,Y,Y,trivial⟩ Y ?_ ?_
      ·rintro k13 _
       refine W1<|L3 Y<|sM Y Y<|sQ (M4 Y Y) Y<|sA Y Y<|k0<|Q2 (again1 (IntKind.wrap .i64 (j9+1)) ()) [] ⟨Y,Y,Y,Y,Y,Y,trivial⟩ Y
      ·rintro m k13 _ again2 out2
       refine J1<|sSR Y<|sM Y Y<|sQ (V2 fa49_1 Y) Y<|sQ (Q4 (j:=0) g47 Y Y Y) Y<|sQ (L7 Tryz.underlying47 Y) Y<|sQ (dLt Y Y) Y<|sM Y Y<|y4 (fun h14=>?_) (fun h14=>?_)
       ·refine sG 5 Y Y Y (dT h14) Y (V2 fa49_0 Y) Y<|sG 5 Y Y Y (dT h14) Y (Q4 (j:=0) g4 Y Y Y) Y<|sG 5 Y Y Y (dT h14) Y (dMv Y) Y<|sG 5 Y Y Y (dT h14) Y (Wg Tryz.underlying4 Y Y) Y<|sQ (P1 Y (dT h14) Y) Y<|k0<|M2 Y (fun h15=>?_) (fun h15=>?_)
        ·refine V1<|J1<|J7<|sSR Y<|sQ (V2 fa49_1 Y) Y<|sQ (Q4 (j:=0) g47 Y Y Y) Y<|sM Y Y<|y5 fun h16=>sQ (dIx Tryz.underlying47 z81 Y Y h16 h14) Y<|sQ (dFA fa81_0 Y) Y<|sQ (dLd g3 Y Y) Y<|sM Y Y<|sQ (dEq Y Y) Y<|k0<|M2 Y (fun h17=>?_) (fun h17=>?_)
         ·refine sSR Y<|sA Y Y<|k0<|ja<|ja<|ja<|L1 [0] Tryz.func48 Tryz.results48 (rT Y) ⟨Y,Y⟩
         ·refine V1<|W1<|L3 Y<|sM Y Y<|sQ (M4 Y Y) Y<|sA Y Y<|k0<|Q2 (again2 (IntKind.wrap .i64 (k13+1)) ()) [0] ⟨Y,Y,Y,Y,Y,Y,Y,Y,trivial⟩ Y
        ·refine P5 Y<|Q2 (out2 k13 ()) [0] ⟨Y,Y,Y,Y,Y,Y,Y,Y,trivial⟩ Y
       ·refine sU 5 Y Y Y (dF h14) Y Y<|sU 5 Y Y Y (dF h14) Y Y<|sU 5 Y Y Y (dF h14) Y Y<|sU 5 Y Y Y (dF h14) Y Y<|sQ (Q1 Y (dF h14) Y) Y<|k0<|Q9 Y Y<|P5 Y<|Q2 (out2 k13 ()) [0] ⟨Y,Y,Y,Y,Y,Y,Y,Y,trivial⟩ Y
     ·refine P5 Y<|Q2 (out1 j9 ()) [] ⟨Y,Y,Y,Y,Y,Y,trivial⟩ Y
  ·refine P5 Y<|Q2 (out0 i5 ()) [] ⟨Y,Y,Y,Y,Y,trivial⟩ Y
def J4.l2 (K:Nat) (g1:Grammar) (a9:Int) (b13:Int):Nat→((List Edge)×Int)→Option ((List Edge)×Int)
 | 0,_=>none
 | m+1,(xs16,k17)=>if k17<2 then (Q3 K g1 a9 b13 (decide (k17=1))).bind fun r19=>if r19=true then if (xs16.length+([(⟨a9,b13,decide (k17=1)⟩:Edge)]:List Edge).length)*24≤140737488355328 then J4.l2 K g1 a9 b13 m (xs16++([(⟨a9,b13,decide (k17=1)⟩:Edge)]:List Edge),IntKind.wrap .i64 (k17+1)) else none else J4.l2 K g1 a9 b13 m (xs16,IntKind.wrap .i64 (k17+1)) else some (xs16,k17)
def J4.l1 (K:Nat) (g1:Grammar) (a9:Int):Nat→((List Edge)×Int)→Option ((List Edge)×Int)
 | 0,_=>none
 | m+1,(xs12,b13)=>if b13<(g1.Names.length:Int) then (J4.l2 K g1 a9 b13 K (xs12,0)).bind fun (xs16,k17)=>J4.l1 K g1 a9 m (xs16,IntKind.wrap .i64 (b13+1)) else some (xs12,b13)
def J4.l0 (K:Nat) (g1:Grammar):Nat→((List Edge)×Int)→Option ((List Edge)×Int)
 | 0,_=>none
 | m+1,(xs8,a9)=>if a9<(g1.Names.length:Int) then (J4.l1 K g1 a9 K (xs8,0)).bind fun (xs12,b13)=>J4.l0 K g1 m (xs12,IntKind.wrap .i64 (a9+1)) else some (xs8,a9)
def J4 (K:Nat) (g1:Grammar):Option ((List Edge)×Int):=(L4 K g1).bind fun r2=>if (!r2)=true then some (([]:List Edge),600) else (J4.l0 K g1 K (([]:List Edge),0)).bind fun (xs8,a9)=>some (xs8,0)
theorem Le (K:Nat) (g1:Grammar):Fresh1 Tryz.prog 31 [.agg (cGrammar.e g1)] (J4 K g1) (fun r v=>.tup [.sv v,Ai .i64 r.2]) (fun r v=>[.own 79 cEdge v r.1]):=by
 refine fresh_of Tryz.func31 rfl Tryz.ntmps31 (le_ rfl) ?_
 refine sSR Y<|sQ (Ma (az:=cGrammar.e g1) Y cAgg) Y<|sA Y Y<|sA Y Y<|k0<|J1<|sSR Y<|sQ (va g25 z25 Y (le_ Y)) Y<|f4 fun r2 e3=>sQ (Q5 ent47 (tf K _) e3 (.s Y .nil)) Y<|sQ (Qb Y) Y<|k0<|L8 Y (fun h4=>?_) (fun h4=>?_)
 ·refine sSR Y<|sA Y Y<|sA Y Y<|k0<|Lf 2 79 cEdge Y fun v5=>Jb [] Tryz.func31 Tryz.results31 (rT Y) (rT Y) ⟨_,Y,Y⟩
 ·refine V1<|sSR Y<|sA Y Y<|k0<|J1<|sSR Y<|sA Y Y<|k0<|Lf 4 79 cEdge Y fun v6=>sLo (J4.l0 K g1) (fun ((xs8,a9):((List Edge)×Int)) (v7:Value)=>([(1,.fptr ((cGrammar.e g1))),(4,.sv v7),(5,Ai .i64 a9)]:Fr)) (fun ((xs8,a9):((List Edge)×Int)) (v7:Value)=>([.own 79 cEdge v7 xs8]:List Res)) v6 (fun _=>Y) [] ⟨Y,Y,Y,trivial⟩ Y ?_ ?_
  ·rintro ⟨xs8,a9⟩ v7
   refine sSR Y<|sM Y Y<|sA Y Y<|sA Y Y<|k0<|Jb [] Tryz.func31 Tryz.results31 (rT Y) (rT Y) ⟨_,Y,Y⟩
  ·rintro m ⟨xs8,a9⟩ v7 again0 out0
   refine J1<|sSR Y<|sM Y Y<|sQ (dFA fa25_1 Y) Y<|sQ (dLd g22 Y Y) Y<|sQ (L7 Tryz.underlying22 Y) Y<|sQ (dLt Y Y) Y<|k0<|M2 Y (fun h10=>?_) (fun h10=>?_)
   ·refine V1<|J1<|J7<|sSR Y<|sA Y Y<|k0<|sLo (J4.l1 K g1 a9) (fun ((xs12,b13):((List Edge)×Int)) (v11:Value)=>([(1,.fptr ((cGrammar.e g1))),(4,.sv v11),(5,Ai .i64 a9),(6,Ai .i64 b13)]:Fr)) (fun ((xs12,b13):((List Edge)×Int)) (v11:Value)=>([.own 79 cEdge v11 xs12]:List Res)) v7 (fun _=>Y) [] ⟨Y,Y,Y,Y,trivial⟩ Y ?_ ?_
    ·rintro ⟨xs12,b13⟩ v11
     refine W1<|L3 Y<|sM Y Y<|sQ (M4 Y Y) Y<|sA Y Y<|k0<|Q2 (again0 (xs12,IntKind.wrap .i64 (a9+1)) v11) [0] ⟨Y,Y,Y,trivial⟩ Y
    ·rintro m ⟨xs12,b13⟩ v11 again1 out1
     refine J1<|sSR Y<|sM Y Y<|sQ (dFA fa25_1 Y) Y<|sQ (dLd g22 Y Y) Y<|sQ (L7 Tryz.underlying22 Y) Y<|sQ (dLt Y Y) Y<|k0<|M2 Y (fun h14=>?_) (fun h14=>?_)
     ·refine V1<|J1<|J7<|sSR Y<|sA Y Y<|k0<|sLo (J4.l2 K g1 a9 b13) (fun ((xs16,k17):((List Edge)×Int)) (v15:Value)=>([(1,.fptr ((cGrammar.e g1))),(4,.sv v15),(5,Ai .i64 a9),(6,Ai .i64 b13),(7,Ai .i64 k17)]:Fr)) (fun ((xs16,k17):((List Edge)×Int)) (v15:Value)=>([.own 79 cEdge v15 xs16]:List Res)) v11 (fun _=>Y) [] ⟨Y,Y,Y,Y,Y,trivial⟩ Y ?_ ?_
      ·rintro ⟨xs16,k17⟩ v15
       refine W1<|L3 Y<|sM Y Y<|sQ (M4 Y Y) Y<|sA Y Y<|k0<|Q2 (again1 (xs16,IntKind.wrap .i64 (b13+1)) v15) [0] ⟨Y,Y,Y,Y,trivial⟩ Y
      ·rintro m ⟨xs16,k17⟩ v15 again2 out2
       refine J1<|sSR Y<|sM Y Y<|sQ (dLt Y Y) Y<|k0<|M2 Y (fun h18=>?_) (fun h18=>?_)
       ·refine V1<|J1<|J7<|sSR Y<|sQ (va g25 z25 Y (le_ Y)) Y<|sM Y Y<|sM Y Y<|sM Y Y<|sQ (dEq Y Y) Y<|f4 fun r19 e20=>sQ (Q5 ent48 (Je K _ _ _ _) e20 (.s Y<|.s Y<|.s Y<|.s Y .nil)) Y<|k0<|L8 Y (fun h21=>?_) (fun h21=>?_)
        ·refine L3 Y<|sM Y Y<|sM Y Y<|sM Y Y<|sM Y Y<|sQ (dEq Y Y) Y<|sQ (J9 (az:=[Ai .i64 (0:Int),Ai .i64 (0:Int),Ab false]) Tryz.underlying79 zv79 pl79 (fun _ _=>.cons Y (.cons Y (.cons Y .nil))) (.c Y Y (cOne (oLit Y)) Y Y (.c Y Y (cOne (oLit Y)) Y Y (.c Y Y (cOne (oLit Y)) Y Y .nil)))) Y<|sQ (dBS (c:=cEdge) (xs:=([(⟨a9,b13,decide (k17=1)⟩:Edge)]:List Edge)) Tryz.underlying74 z79 wi (.c Y cAgg .nil) Y) Y<|y5 fun h22=>sAp (j:=0) Tryz.underlying74 wi Y Y Y Y h22 Y Y fun v23=>sA Y Y<|k0<|W1<|L3 Y<|sM Y Y<|sQ (M4 Y Y) Y<|sA Y Y<|k0<|Q2 (again2 (xs16++([(⟨a9,b13,decide (k17=1)⟩:Edge)]:List Edge),IntKind.wrap .i64 (k17+1)) v23) [0] ⟨Y,Y,Y,Y,Y,trivial⟩ Y
        ·refine V1<|W1<|L3 Y<|sM Y Y<|sQ (M4 Y Y) Y<|sA Y Y<|k0<|Q2 (again2 (xs16,IntKind.wrap .i64 (k17+1)) v15) [0] ⟨Y,Y,Y,Y,Y,trivial⟩ Y
       ·refine P5 Y<|Q2 (out2 (xs16,k17) v15) [0] ⟨Y,Y,Y,Y,Y,trivial⟩ Y
     ·refine P5 Y<|Q2 (out1 (xs12,b13) v11) [0] ⟨Y,Y,Y,Y,trivial⟩ Y
   ·refine P5 Y<|Q2 (out0 (xs8,a9) v7) [0] ⟨Y,Y,Y,trivial⟩ Y
def f8.l0 (K:Nat) (names1:Int) (es2:(List Edge)):Nat→Int→Option (Int ⊕ Bool)
 | 0,_=>none
 | m+1,i3=>if i3<(es2.length:Int) then if 0≤i3 then if ((rd es2 i3).From)<0 then some (.inr false) else if names1≤((rd es2 i3).From) then some (.inr false) else if ((rd es2 i3).To)<0 then some (.inr false) else if names1≤((rd es2 i3).To) then some (.inr false) else f8.l0 K names1 es2 m (IntKind.wrap .i64 (i3+1)) else none else some (.inl i3)
def f8 (K:Nat) (names1:Int) (es2:(List Edge)):Option Bool:=brk (f8.l0 K names1 es2 K 0) fun i3=>if 0≤names1 then some (decide (names1≤64)) else some false
theorem ke (K:Nat) (names1:Int) (es2:(List Edge)):Pure Tryz.prog 49 [Ai .i64 names1,.fsl cEdge es2] (f8 K names1 es2) (fun r=>Ab r):=by
 refine spec_of' Tryz.func49 rfl Tryz.ntmps49 (le_ rfl) ?_
 refine sSR Y<|sA Y Y<|k0<|J1<|sSR Y<|sA Y Y<|k0<|ac (f8.l0 K names1 es2) (fun (i3:Int) (_:Unit)=>([(0,Ai .i64 names1),(1,.fsl cEdge es2),(5,Ai .i64 i3)]:Fr)) (fun (i3:Int) (_:Unit)=>([]:List Res)) () (fun _=>Y) [] ⟨Y,Y,Y,trivial⟩ Y ?_ ?_
 ·rintro i3 _
  refine sSR Y<|sM Y Y<|sQ (dGe Y Y) Y<|sM Y Y<|y4 (fun h10=>?_) (fun h10=>?_)
  ·refine sG 2 Y Y Y (dT h10) Y (dMv Y) Y<|sG 2 Y Y Y (dT h10) Y (dLe Y Y) Y<|sQ (P1 Y (dT h10) Y) Y<|sA Y Y<|k0<|L1 [] Tryz.func49 Tryz.results49 (rT Y) ⟨Y,Y⟩
  ·refine sU 2 Y Y Y (dF h10) Y Y<|sU 2 Y Y Y (dF h10) Y Y<|sQ (Q1 Y (dF h10) Y) Y<|sA Y Y<|k0<|L1 [] Tryz.func49 Tryz.results49 (rT Y) ⟨Y,Y⟩
 ·rintro m i3 _ again0 out0
  refine J1<|sSR Y<|sM Y Y<|sM Y Y<|sQ (L7 Tryz.underlying74 Y) Y<|sQ (dLt Y Y) Y<|k0<|M2 Y (fun h4=>?_) (fun h4=>?_)
  ·refine V1<|J1<|J7<|sSR Y<|sM Y Y<|sM Y Y<|y5 fun h5=>sQ (dIx Tryz.underlying74 z79 Y Y h5 h4) Y<|sQ (dFA fa79_0 Y) Y<|sQ (dLd g3 Y Y) Y<|sQ (dLt Y Y) Y<|sM Y Y<|y4 (fun h6=>?_) (fun h6=>?_)
   ·refine sU 6 Y Y Y (dT h6) Y Y<|sU 6 Y Y Y (dT h6) Y Y<|sU 6 Y Y Y (dT h6) Y Y<|sU 6 Y Y Y (dT h6) Y Y<|sU 6 Y Y Y (dT h6) Y Y<|sU 6 Y Y Y (dT h6) Y Y<|sU 6 Y Y Y (dT h6) Y Y<|sQ (P1 Y (dT h6) Y) Y<|sM Y Y<|sU 15 Y Y Y Y Y Y<|sU 15 Y Y Y Y Y Y<|sU 15 Y Y Y Y Y Y<|sU 15 Y Y Y Y Y Y<|sU 15 Y Y Y Y Y Y<|sU 15 Y Y Y Y Y Y<|sQ (P1 Y Y Y) Y<|sM Y Y<|sU 23 Y Y Y Y Y Y<|sU 23 Y Y Y Y Y Y<|sU 23 Y Y Y Y Y Y<|sU 23 Y Y Y Y Y Y<|sU 23 Y Y Y Y Y Y<|sU 23 Y Y Y Y Y Y<|sU 23 Y Y Y Y Y Y<|sQ (P1 Y Y Y) Y<|k0<|J5 Y Y<|sSR Y<|sA Y Y<|k0<|ja<|L1 [] Tryz.func49 Tryz.results49 (rT Y) ⟨Y,Y⟩
   ·refine sG 6 Y Y Y (dF h6) Y (dMv Y) Y<|sG 6 Y Y Y (dF h6) Y (dMv Y) Y<|sG 6 Y Y Y (dF h6) Y (dIx Tryz.underlying74 z79 Y Y h5 h4) Y<|sG 6 Y Y Y (dF h6) Y (dFA fa79_0 Y) Y<|sG 6 Y Y Y (dF h6) Y (dLd g3 Y Y) Y<|sG 6 Y Y Y (dF h6) Y (dMv Y) Y<|sG 6 Y Y Y (dF h6) Y (dGe Y Y) Y<|sQ (Q1 Y (dF h6) Y) Y<|sM Y Y<|y4 (fun h7=>?_) (fun h7=>?_)
    ·refine sU 15 Y Y Y (dT h7) Y Y<|sU 15 Y Y Y (dT h7) Y Y<|sU 15 Y Y Y (dT h7) Y Y<|sU 15 Y Y Y (dT h7) Y Y<|sU 15 Y Y Y (dT h7) Y Y<|sU 15 Y Y Y (dT h7) Y Y<|sQ (P1 Y (dT h7) Y) Y<|sM Y Y<|sU 23 Y Y Y Y Y Y<|sU 23 Y Y Y Y Y Y<|sU 23 Y Y Y Y Y Y<|sU 23 Y Y Y Y Y Y<|sU 23 Y Y Y Y Y Y<|sU 23 Y Y Y Y Y Y<|sU 23 Y Y Y Y Y Y<|sQ (P1 Y Y Y) Y<|k0<|J5 Y Y<|sSR Y<|sA Y Y<|k0<|ja<|L1 [] Tryz.func49 Tryz.results49 (rT Y) ⟨Y,Y⟩
    ·refine sG 15 Y Y Y (dF h7) Y (dMv Y) Y<|sG 15 Y Y Y (dF h7) Y (dMv Y) Y<|sG 15 Y Y Y (dF h7) Y (dIx Tryz.underlying74 z79 Y Y h5 h4) Y<|sG 15 Y Y Y (dF h7) Y (dFA fa79_1 Y) Y<|sG 15 Y Y Y (dF h7) Y (dLd g3 Y Y) Y<|sG 15 Y Y Y (dF h7) Y (dLt Y Y) Y<|sQ (Q1 Y (dF h7) Y) Y<|sM Y Y<|y4 (fun h8=>?_) (fun h8=>?_)
     ·refine sU 23 Y Y Y (dT h8) Y Y<|sU 23 Y Y Y (dT h8) Y Y<|sU 23 Y Y Y (dT h8) Y Y<|sU 23 Y Y Y (dT h8) Y Y<|sU 23 Y Y Y (dT h8) Y Y<|sU 23 Y Y Y (dT h8) Y Y<|sU 23 Y Y Y (dT h8) Y Y<|sQ (P1 Y (dT h8) Y) Y<|k0<|J5 Y Y<|sSR Y<|sA Y Y<|k0<|ja<|L1 [] Tryz.func49 Tryz.results49 (rT Y) ⟨Y,Y⟩
     ·refine sG 23 Y Y Y (dF h8) Y (dMv Y) Y<|sG 23 Y Y Y (dF h8) Y (dMv Y) Y<|sG 23 Y Y Y (dF h8) Y (dIx Tryz.underlying74 z79 Y Y h5 h4) Y<|sG 23 Y Y Y (dF h8) Y (dFA fa79_1 Y) Y<|sG 23 Y Y Y (dF h8) Y (dLd g3 Y Y) Y<|sG 23 Y Y Y (dF h8) Y (dMv Y) Y<|sG 23 Y Y Y (dF h8) Y (dGe Y Y) Y<|sQ (Q1 Y (dF h8) Y) Y<|k0<|M2 Y (fun h9=>?_) (fun h9=>?_)
      ·refine sSR Y<|sA Y Y<|k0<|ja<|L1 [] Tryz.func49 Tryz.results49 (rT Y) ⟨Y,Y⟩
      ·refine V1<|W1<|L3 Y<|sM Y Y<|sQ (M4 Y Y) Y<|sA Y Y<|k0<|Q2 (again0 (IntKind.wrap .i64 (i3+1)) ()) [] ⟨Y,Y,Y,trivial⟩ Y
  ·refine P5 Y<|Q2 (out0 i3 ()) [] ⟨Y,Y,Y,trivial⟩ Y
def M5.l1 (K:Nat) (es2:(List Edge)):Nat→((List Bool)×Int)→Option ((List Bool)×Int)
 | 0,_=>none
 | m+1,(xs12,i13)=>if i13<(es2.length:Int) then if 0≤i13 then if 0≤(rd es2 i13).From then if (rd es2 i13).From<(xs12.length:Int) then if (rd xs12 ((rd es2 i13).From))=true then if 0≤(rd es2 i13).To then if (rd es2 i13).To<(xs12.length:Int) then M5.l1 K es2 m (xs12.set ((rd es2 i13).To).toNat true,IntKind.wrap .i64 (i13+1)) else none else none else M5.l1 K es2 m (xs12,IntKind.wrap .i64 (i13+1)) else none else none else none else some (xs12,i13)
def M5.l0 (K:Nat) (names1:Int) (es2:(List Edge)):Nat→((List Bool)×Int)→Option ((List Bool)×Int)
 | 0,_=>none
 | m+1,(xs9,r10)=>if r10<names1 then (M5.l1 K es2 K (xs9,0)).bind fun (xs12,i13)=>M5.l0 K names1 es2 m (xs12,IntKind.wrap .i64 (r10+1)) else some (xs9,r10)
def M5 (K:Nat) (names1:Int) (es2:(List Edge)) (from3:Int):Option (List Bool):=if 0≤names1 then if (1:Int)*names1≤281474976710656 then if 0≤from3 then if from3<((List.replicate names1.toNat false).length:Int) then (M5.l0 K names1 es2 K ((List.replicate names1.toNat false).set from3.toNat true,0)).bind fun (xs9,r10)=>some xs9 else none else none else none else none
theorem ce (K:Nat) (names1:Int) (es2:(List Edge)) (from3:Int):Fresh1 Tryz.prog 50 [Ai .i64 names1,.fsl cEdge es2,Ai .i64 from3] (M5 K names1 es2 from3) (fun r v=>.sv v) (fun r v=>[.own 4 cB v r]):=by
 refine fresh_of Tryz.func50 rfl Tryz.ntmps50 (le_ rfl) ?_
 refine sSR Y<|sA Y Y<|sES Y<|sM Y Y<|y5 fun h4=>y5 fun h5=>sMk (c:=cB) false Tryz.underlying106 vk (fun _ _=>.cons Y .nil) Y h4 h5 Y Y fun v6=>sA Y Y<|sES Y<|sM Y Y<|sM Y Y<|y5 fun h7=>y5 fun h8=>sQ (Q8 (j:=0) Tryz.underlying106 z4 Y Y Y h7 h8) Y<|md (j:=0) (off:=0) from3 true z4 Y Y Y h7 h8 Y (cOne (oLit Y)) ⟨(oLit Y),trivial⟩ Y (le_ Y) Y<|k0<|J1<|sSR Y<|sA Y Y<|k0<|sLo (M5.l0 K names1 es2) (fun ((xs9,r10):((List Bool)×Int)) (_:Unit)=>([(0,Ai .i64 names1),(1,.fsl cEdge es2),(7,.sv v6),(8,Ai .i64 r10)]:Fr)) (fun ((xs9,r10):((List Bool)×Int)) (_:Unit)=>([.own 4 cB v6 xs9]:List Res)) () (fun _=>Y) [] ⟨Y,Y,Y,Y,trivial⟩ Y ?_ ?_
 ·rintro ⟨xs9,r10⟩ _
  refine sSR Y<|sM Y Y<|sA Y Y<|k0<|L1 [] Tryz.func50 Tryz.results50 (rT Y) ⟨_,Y,Y⟩
 ·rintro m ⟨xs9,r10⟩ _ again0 out0
  refine J1<|sSR Y<|sM Y Y<|sM Y Y<|sQ (dLt Y Y) Y<|k0<|M2 Y (fun h11=>?_) (fun h11=>?_)
  ·refine V1<|J1<|J7<|sSR Y<|sA Y Y<|k0<|sLo (M5.l1 K es2) (fun ((xs12,i13):((List Bool)×Int)) (_:Unit)=>([(0,Ai .i64 names1),(1,.fsl cEdge es2),(7,.sv v6),(8,Ai .i64 r10),(9,Ai .i64 i13)]:Fr)) (fun ((xs12,i13):((List Bool)×Int)) (_:Unit)=>([.own 4 cB v6 xs12]:List Res)) () (fun _=>Y) [] ⟨Y,Y,Y,Y,Y,trivial⟩ Y ?_ ?_
   ·rintro ⟨xs12,i13⟩ _
    refine W1<|L3 Y<|sM Y Y<|sQ (M4 Y Y) Y<|sA Y Y<|k0<|Q2 (again0 (xs12,IntKind.wrap .i64 (r10+1)) ()) [0] ⟨Y,Y,Y,Y,trivial⟩ Y
   ·rintro m ⟨xs12,i13⟩ _ again1 out1
    refine J1<|sSR Y<|sM Y Y<|sM Y Y<|sQ (L7 Tryz.underlying74 Y) Y<|sQ (dLt Y Y) Y<|k0<|M2 Y (fun h14=>?_) (fun h14=>?_)
    ·refine V1<|J1<|J7<|sSR Y<|sM Y Y<|sM Y Y<|sM Y Y<|y5 fun h15=>sQ (dIx Tryz.underlying74 z79 Y Y h15 h14) Y<|sQ (dFA fa79_0 Y) Y<|sQ (dLd g3 Y Y) Y<|y5 fun h16=>y5 fun h17=>sQ (Q8 (j:=0) Tryz.underlying106 z4 Y Y Y h16 h17) Y<|sQ (f9 (j:=0) (off:=0) ((rd es2 i13).From) g4 Y Y Y h16 h17 Y) Y<|k0<|L8 Y (fun h18=>?_) (fun h18=>?_)
     ·refine L3 Y<|sM Y Y<|sM Y Y<|sM Y Y<|sQ (dIx Tryz.underlying74 z79 Y Y h15 h14) Y<|sQ (dFA fa79_1 Y) Y<|sQ (dLd g3 Y Y) Y<|y5 fun h19=>y5 fun h20=>sQ (Q8 (j:=0) Tryz.underlying106 z4 Y Y Y h19 h20) Y<|md (j:=0) (off:=0) ((rd es2 i13).To) true z4 Y Y Y h19 h20 Y (cOne (oLit Y)) ⟨(oLit Y),trivial⟩ Y (le_ Y) Y<|k0<|W1<|L3 Y<|sM Y Y<|sQ (M4 Y Y) Y<|sA Y Y<|k0<|Q2 (again1 (xs12.set ((rd es2 i13).To).toNat true,IntKind.wrap .i64 (i13+1)) ()) [0] ⟨Y,Y,Y,Y,Y,trivial⟩ Y
     ·refine V1<|W1<|L3 Y<|sM Y Y<|sQ (M4 Y Y) Y<|sA Y Y<|k0<|Q2 (again1 (xs12,IntKind.wrap .i64 (i13+1)) ()) [0] ⟨Y,Y,Y,Y,Y,trivial⟩ Y
    ·refine P5 Y<|Q2 (out1 (xs12,i13) ()) [0] ⟨Y,Y,Y,Y,Y,trivial⟩ Y
  ·refine P5 Y<|Q2 (out0 (xs9,r10) ()) [0] ⟨Y,Y,Y,Y,trivial⟩ Y
end Go.Proofs.YtohcehphgihplaaGreat

