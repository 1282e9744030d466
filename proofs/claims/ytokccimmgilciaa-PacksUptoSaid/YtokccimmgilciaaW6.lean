import Derived.Test.YtokccimmgilciaaW5
namespace Go.Proofs.Ytokccimmgilciaa
open S
set_option linter.unusedVariables false
set_option maxRecDepth 100000
set_option maxHeartbeats 4000000
def L5.l0 (K:Nat) (r10:(Int×J0)):Nat→((List Node)×ByteArray×Int×Bool×Int)→Option ((List Node)×ByteArray×Int×Bool×Int)
 | 0,_=>none
 | m+1,(xs15,c16,c17,c18,i19)=>if i19<r10.1 then if (!c18)=true then (J3 K (⟨c16,c17,c18⟩:J0)).bind fun r22=>if (xs15.length+([r22.1]:List Node).length)*96≤140737488355328 then L5.l0 K r10 m (xs15++([r22.1]:List Node),r22.2.s,r22.2.at_,r22.2.bad,IntKind.wrap .i64 (i19+1)) else none else some (xs15,c16,c17,c18,i19) else some (xs15,c16,c17,c18,i19)
def L5 (K:Nat) (s1:ByteArray):Option (Cert×Int):=if 1048576<(s1.size:Int) then some ((⟨(0:Int),[]⟩:Cert),1801) else if (s1.size:Int)<2 then some ((⟨(0:Int),[]⟩:Cert),1800) else if (sls s1 0 2)≠(⟨#[84,67]⟩:ByteArray) then some ((⟨(0:Int),[]⟩:Cert),1800) else (P0 K (⟨s1,2,false⟩:J0) 4).bind fun r7=>(P0 K (⟨r7.2.s,r7.2.at_,r7.2.bad⟩:J0) 4).bind fun r10=>if 65536<r10.1 then some ((⟨(0:Int),[]⟩:Cert),1800) else (L5.l0 K r10 K (([]:List Node),r10.2.s,r10.2.at_,r10.2.bad,0)).bind fun (xs15,c16,c17,c18,i19)=>if c18=true then some ((⟨(0:Int),[]⟩:Cert),1800) else if c17≠(s1.size:Int) then some ((⟨(0:Int),[]⟩:Cert),1800) else some ((⟨r7.1,xs15⟩:Cert),0)
theorem za (K:Nat) (s1:ByteArray):Pure Try.prog 13 [.lit (.string s1)] (L5 K s1) (fun r=>.tup [.agg (cCert.e r.1),Ai .i64 r.2]):=by
 refine spec_of' Try.func13 rfl Try.ntmps13 (le_ rfl) ?_
 refine Q0<|G0 rfl<|V5 (az:=[Ai .i64 (0:Int),.lit (.slice none 0 0)]) al24 (fun _ _=>.cons rfl (.cons rfl .nil)) rfl fun b2=>sQ (dAs rfl) rfl<|j0<|Q0<|Q0<|G0 rfl<|sQ (dMv rfl) rfl<|sQ (J9 Try.underlying9 rfl) rfl<|sQ (dGt rfl rfl) rfl<|j0<|P5 rfl (fun h3=>?_) (fun h3=>?_)
 ·refine Q0<|G0 rfl<|sQ (G5 (az:=[Ai .i64 (0:Int),.lit (.slice none 0 0)]) Try.underlying24 zv24 pl24 (fun _ _=>.cons rfl (.cons rfl .nil)) (.nil)) rfl<|V4 (j:=0) z24 rfl rfl rfl cAgg ⟨(oLit rfl),(oLit rfl),trivial⟩ rfl (le_ rfl)<|sQ (dAs rfl) rfl<|j0<|yb 0 1 cNode rfl rfl<|k7 [0] Try.func13 Try.results13 (rC (j:=0) g24 z24 rfl rfl rfl) (rT rfl) ⟨rfl,rfl⟩
 ·refine M3<|Q0<|Q0<|G0 rfl<|sQ (dMv rfl) rfl<|sQ (J9 Try.underlying9 rfl) rfl<|sQ (dLt rfl rfl) rfl<|sQ (dMv rfl) rfl<|Q4 (fun h4=>?_) (fun h4=>?_)
  ·refine sQu (j:=3) rfl rfl rfl (decide_eq_true h4) rfl rfl<|sQu (j:=3) rfl rfl rfl (decide_eq_true h4) rfl rfl<|sQu (j:=3) rfl rfl rfl (decide_eq_true h4) rfl rfl<|sQ (W1 rfl (decide_eq_true h4) rfl) rfl<|j0<|L6 rfl rfl<|Q0<|G0 rfl<|sQ (G5 (az:=[Ai .i64 (0:Int),.lit (.slice none 0 0)]) Try.underlying24 zv24 pl24 (fun _ _=>.cons rfl (.cons rfl .nil)) (.nil)) rfl<|V4 (j:=0) z24 rfl rfl rfl cAgg ⟨(oLit rfl),(oLit rfl),trivial⟩ rfl (le_ rfl)<|sQ (dAs rfl) rfl<|j0<|yb 0 1 cNode rfl rfl<|k7 [0] Try.func13 Try.results13 (rC (j:=0) g24 z24 rfl rfl rfl) (rT rfl) ⟨rfl,rfl⟩
  ·refine sQg (j:=3) rfl rfl rfl (decide_eq_false h4) rfl (dMv rfl) rfl<|sQg (j:=3) rfl rfl rfl (decide_eq_false h4) rfl (Vc Try.underlying9 rfl rfl (by decide) (Int.not_lt.1 h4)) rfl<|sQg (j:=3) rfl rfl rfl (decide_eq_false h4) rfl (jd rfl rfl) rfl<|sQ (V0 rfl (decide_eq_false h4) rfl) rfl<|j0<|P5 rfl (fun h5=>?_) (fun h5=>?_)
   ·refine Q0<|G0 rfl<|sQ (G5 (az:=[Ai .i64 (0:Int),.lit (.slice none 0 0)]) Try.underlying24 zv24 pl24 (fun _ _=>.cons rfl (.cons rfl .nil)) (.nil)) rfl<|V4 (j:=0) z24 rfl rfl rfl cAgg ⟨(oLit rfl),(oLit rfl),trivial⟩ rfl (le_ rfl)<|sQ (dAs rfl) rfl<|j0<|yb 0 1 cNode rfl rfl<|k7 [0] Try.func13 Try.results13 (rC (j:=0) g24 z24 rfl rfl rfl) (rT rfl) ⟨rfl,rfl⟩
   ·refine M3<|Q0<|G0 rfl<|sQ (dMv rfl) rfl<|sQ (G5 (az:=[.lit (.string (⟨#[]⟩:ByteArray)),Ai .i64 (0:Int),Ab false]) Try.underlying80 zv80 pl80 (fun _ _=>.cons rfl (.cons rfl (.cons rfl .nil))) (.c rfl rfl (cOne (oLit rfl)) rfl rfl (.c rfl rfl (cOne (oLit rfl)) rfl rfl .nil))) rfl<|Mc rfl cAgg rfl fun b6=>sQ (dAs rfl) rfl<|j0<|Q0<|G0 rfl<|sQ (dMv rfl) rfl<|V1 fun r7 e8=>J2 [0] ent32 rfl (J1 K _ _ _) e8 rfl (.s rfl<|.s rfl .nil) rfl fun _=>sQ (G5 (az:=[Ai .i64 (0:Int),.lit (.slice none 0 0)]) Try.underlying24 zv24 pl24 (fun _ _=>.cons rfl (.cons rfl .nil)) (.c rfl rfl (cOne (oLit rfl)) rfl rfl .nil)) rfl<|V5 (az:=[Ai .i64 (0:Int),.lit (.slice none 0 0)]) al24 (fun _ _=>.cons rfl (.cons rfl .nil)) rfl fun b9=>V4 (j:=0) z24 rfl rfl rfl cAgg ⟨(oLit rfl),(oLit rfl),trivial⟩ rfl (le_ rfl)<|j0<|Q0<|G0 rfl<|sQ (dMv rfl) rfl<|V1 fun r10 e11=>J2 [1] ent32 rfl (J1 K _ _ _) e11 rfl (.s rfl<|.s rfl .nil) rfl fun _=>sQ (dAs rfl) rfl<|j0<|Q0<|Q0<|G0 rfl<|sQ (dMv rfl) rfl<|sQ (dGt rfl rfl) rfl<|j0<|P5 rfl (fun h12=>?_) (fun h12=>?_)
    ·refine Q0<|G0 rfl<|sQ (G5 (az:=[Ai .i64 (0:Int),.lit (.slice none 0 0)]) Try.underlying24 zv24 pl24 (fun _ _=>.cons rfl (.cons rfl .nil)) (.nil)) rfl<|V4 (j:=2) z24 rfl rfl rfl cAgg ⟨(oLit rfl),(oLit rfl),trivial⟩ rfl (le_ rfl)<|sQ (dAs rfl) rfl<|j0<|yb 2 1 cNode rfl rfl<|k7 [2,1,0] Try.func13 Try.results13 (rC (j:=2) g24 z24 rfl rfl rfl) (rT rfl) ⟨rfl,rfl⟩
    ·refine M3<|Q0<|Q0<|G0 rfl<|sQ (dAs rfl) rfl<|j0<|pc (c:=cNode) 1 1 46 rfl rfl fun v13=>G6 (L5.l0 K r10) (fun ((xs15,c16,c17,c18,i19):((List Node)×ByteArray×Int×Bool×Int)) (v14:Value)=>([(0,.lit (.string s1)),(2,.lit (.pointer (some ⟨b2,0,none⟩))),(4,.lit (.pointer (some ⟨b6,0,none⟩))),(5,.lit (.pointer (some ⟨b9,0,none⟩))),(6,Ai .i64 r10.1),(7,Ai .i64 i19)]:Fr)) (fun ((xs15,c16,c17,c18,i19):((List Node)×ByteArray×Int×Bool×Int)) (v14:Value)=>([.own 46 cNode v14 xs15,.box b6 [.lit (.string c16),Ai .i64 c17,Ab c18],.box b9 [Ai .i64 r7.1,.sv v14],.box b2 [Ai .i64 (0:Int),.lit (.slice none 0 0)]]:List Res)) (fun ((xs15,c16,c17,c18,i19):((List Node)×ByteArray×Int×Bool×Int)) (v14:Value)=>([(0,.lit (.string s1)),(2,.lit (.pointer (some ⟨b2,0,none⟩))),(4,.lit (.pointer (some ⟨b6,0,none⟩))),(5,.lit (.pointer (some ⟨b9,0,none⟩))),(6,Ai .i64 r10.1),(7,Ai .i64 i19)]:Fr)) (fun ((xs15,c16,c17,c18,i19):((List Node)×ByteArray×Int×Bool×Int)) (v14:Value)=>([.own 46 cNode v14 xs15,.box b6 [.lit (.string c16),Ai .i64 c17,Ab c18],.box b9 [Ai .i64 r7.1,.sv v14],.box b2 [Ai .i64 (0:Int),.lit (.slice none 0 0)]]:List Res)) v13 (fun _=>rfl) [] ⟨rfl,rfl,rfl,rfl,rfl,rfl,trivial⟩ rfl ?_ ?_
     ·rintro ⟨xs15,c16,c17,c18,i19⟩ v14
      refine Q0<|Q0<|G0 rfl<|sQ (dMv rfl) rfl<|sQ (dNc ptLit rfl) rfl<|sQ (P2 fa80_2 rfl) rfl<|sQ (Q5 (j:=1) g4 rfl rfl rfl) rfl<|sQ (dMv rfl) rfl<|Q4 (fun h27=>?_) (fun h27=>?_)
      ·refine sQu (j:=4) rfl rfl rfl h27 rfl rfl<|sQu (j:=4) rfl rfl rfl h27 rfl rfl<|sQu (j:=4) rfl rfl rfl h27 rfl rfl<|sQu (j:=4) rfl rfl rfl h27 rfl rfl<|sQu (j:=4) rfl rfl rfl h27 rfl rfl<|sQu (j:=4) rfl rfl rfl h27 rfl rfl<|sQu (j:=4) rfl rfl rfl h27 rfl rfl<|sQ (W1 rfl h27 rfl) rfl<|j0<|L6 rfl rfl<|Q0<|G0 rfl<|sQ (G5 (az:=[Ai .i64 (0:Int),.lit (.slice none 0 0)]) Try.underlying24 zv24 pl24 (fun _ _=>.cons rfl (.cons rfl .nil)) (.nil)) rfl<|V4 (j:=3) z24 rfl rfl rfl cAgg ⟨(oLit rfl),(oLit rfl),trivial⟩ rfl (le_ rfl)<|sQ (dAs rfl) rfl<|j0<|yb 3 1 cNode rfl rfl<|k7 [3,2,1,0] Try.func13 Try.results13 (rC (j:=3) g24 z24 rfl rfl rfl) (rT rfl) ⟨rfl,rfl⟩
      ·refine sQg (j:=4) rfl rfl rfl (eq_false_of_ne_true h27) rfl (dMv rfl) rfl<|sQg (j:=4) rfl rfl rfl (eq_false_of_ne_true h27) rfl (dNc ptLit rfl) rfl<|sQg (j:=4) rfl rfl rfl (eq_false_of_ne_true h27) rfl (P2 fa80_1 rfl) rfl<|sQg (j:=4) rfl rfl rfl (eq_false_of_ne_true h27) rfl (Q5 (j:=1) g3 rfl rfl rfl) rfl<|sQg (j:=4) rfl rfl rfl (eq_false_of_ne_true h27) rfl (dMv rfl) rfl<|sQg (j:=4) rfl rfl rfl (eq_false_of_ne_true h27) rfl (J9 Try.underlying9 rfl) rfl<|sQg (j:=4) rfl rfl rfl (eq_false_of_ne_true h27) rfl (dNe rfl rfl) rfl<|sQ (V0 rfl (eq_false_of_ne_true h27) rfl) rfl<|j0<|P5 rfl (fun h28=>?_) (fun h28=>?_)
       ·refine Q0<|G0 rfl<|sQ (G5 (az:=[Ai .i64 (0:Int),.lit (.slice none 0 0)]) Try.underlying24 zv24 pl24 (fun _ _=>.cons rfl (.cons rfl .nil)) (.nil)) rfl<|V4 (j:=3) z24 rfl rfl rfl cAgg ⟨(oLit rfl),(oLit rfl),trivial⟩ rfl (le_ rfl)<|sQ (dAs rfl) rfl<|j0<|yb 3 1 cNode rfl rfl<|k7 [3,2,1,0] Try.func13 Try.results13 (rC (j:=3) g24 z24 rfl rfl rfl) (rT rfl) ⟨rfl,rfl⟩
       ·refine M3<|Q0<|G0 rfl<|sQ (J6 (j:=2) g24 z24 rfl rfl (le_ rfl)) rfl<|V4 (j:=3) z24 rfl rfl rfl cAgg ⟨(oLit rfl),oSv,trivial⟩ rfl (le_ rfl)<|sQ (dAs rfl) rfl<|j0<|sFz 0 rfl<|fc 3 1 0 rfl rfl rfl<|k7 [3,2,1,0] Try.func13 Try.results13 (rC (j:=3) g24 z24 rfl rfl rfl) (rT rfl) ⟨rfl,rfl⟩
     ·rintro m ⟨xs15,c16,c17,c18,i19⟩ v14 again0 out0
      refine Q0<|Q0<|G0 rfl<|sQ (dMv rfl) rfl<|sQ (dMv rfl) rfl<|sQ (dLt rfl rfl) rfl<|sQ (dMv rfl) rfl<|Q4 (fun h20=>?_) (fun h20=>?_)
      ·refine sQg (j:=3) rfl rfl rfl (decide_eq_true h20) rfl (dMv rfl) rfl<|sQg (j:=3) rfl rfl rfl (decide_eq_true h20) rfl (dNc ptLit rfl) rfl<|sQg (j:=3) rfl rfl rfl (decide_eq_true h20) rfl (P2 fa80_2 rfl) rfl<|sQg (j:=3) rfl rfl rfl (decide_eq_true h20) rfl (Q5 (j:=1) g4 rfl rfl rfl) rfl<|sQg (j:=3) rfl rfl rfl (decide_eq_true h20) rfl (L8 rfl) rfl<|sQ (W1 rfl (decide_eq_true h20) rfl) rfl<|j0<|M6 rfl (fun h21=>?_) (fun h21=>?_)
       ·refine M3<|Q0<|f7<|P8 fun r22 e23=>sIf fun h24=>Pb [(0,44,.lit (.pointer (some ⟨b9,1,none⟩))),(1,45,.sv v14),(2,46,.lit (.pointer (some ⟨b6,0,none⟩))),(6,50,.lit (.pointer (some ⟨b9,1,none⟩)))] [3,4,5,7] [[3,4,5,7]] mixed (by kernel_rfl) (by kernel_rfl) (by kernel_rfl) (by kernel_rfl) ⟨?_,trivial⟩
        ·refine mE [44,45,50] [0,1,2,6] (by kernel_rfl) (by kernel_rfl) (by kernel_rfl) (by kernel_rfl) rfl rfl (.c rfl rfl rfl rfl (.r (P2 fa24_1 rfl))<|.c rfl rfl rfl rfl (.r (Q5 (j:=2) g22 rfl rfl rfl))<|.c rfl rfl rfl rfl (.r (dMv rfl))<|.c rfl rfl rfl rfl (.r (P2 fa24_1 rfl)) .n) ?_
         intro ab3 l_3 nx3
         refine J2 [1] ent33 rfl (Q8 K _ _) e23 rfl (.s rfl .nil) rfl fun _=>nx3 (H'':=[.box b6 [.lit (.string r22.2.s),Ai .i64 r22.2.at_,Ab r22.2.bad],.own 46 cNode v14 xs15,.box b9 [Ai .i64 r7.1,.sv v14],.box b2 [Ai .i64 (0:Int),.lit (.slice none 0 0)]]) [(47,.agg (cNode.e r22.1))] [0,0,0,0] ⟨rfl,trivial⟩ (by repeat (first | with_reducible exact .z | refine .s rfl ?_)) rfl (by kernel_rfl)<|mE [44,45,50] [0,1,6] (by kernel_rfl) (by kernel_rfl) (by kernel_rfl) (by kernel_rfl) rfl rfl (.c rfl rfl rfl rfl (.r (P2 fa24_1 rfl))<|.c rfl rfl rfl rfl (.r (Q5 (j:=2) g22 rfl rfl rfl))<|.c rfl rfl rfl rfl (.r (P2 fa24_1 rfl)) .n) ?_
         intro ab4 l4 nx4
         refine sQ (dBS (c:=cNode) (xs:=([r22.1]:List Node)) Try.underlying22 z46 P9 (.c rfl cAgg .nil) rfl) rfl<|nx4 (H'':=[.box b6 [.lit (.string r22.2.s),Ai .i64 r22.2.at_,Ab r22.2.bad],.own 46 cNode v14 xs15,.box b9 [Ai .i64 r7.1,.sv v14],.box b2 [Ai .i64 (0:Int),.lit (.slice none 0 0)]]) [(47,.agg (cNode.e r22.1)),(48,.fsl cNode ([r22.1]:List Node))] [0,0,0,0] ⟨rfl,rfl,trivial⟩ (by repeat (first | with_reducible exact .z | refine .s rfl ?_)) rfl (by kernel_rfl)<|mE [50] [0,1,6] (by kernel_rfl) (by kernel_rfl) (by kernel_rfl) (by kernel_rfl) rfl rfl (.c rfl rfl rfl rfl (.r (P2 fa24_1 rfl))<|.c rfl rfl rfl rfl (.r (Q5 (j:=2) g22 rfl rfl rfl))<|.c rfl rfl rfl rfl (.r (P2 fa24_1 rfl)) .n) ?_
         intro ab5 l5 nx5
         refine sAp (j:=1) Try.underlying22 P9 rfl rfl rfl rfl h24 rfl rfl fun v26=>nx5 (H'':=[.box b6 [.lit (.string r22.2.s),Ai .i64 r22.2.at_,Ab r22.2.bad],.own 46 cNode v26 (xs15++([r22.1]:List Node)),.box b9 [Ai .i64 r7.1,.sv v14],.box b2 [Ai .i64 (0:Int),.lit (.slice none 0 0)]]) [(47,.agg (cNode.e r22.1)),(48,.fsl cNode ([r22.1]:List Node)),(49,.sv v26)] [0,0,0,0] ⟨rfl,rfl,rfl,trivial⟩ (by repeat (first | with_reducible exact .z | refine .s rfl ?_)) rfl (by kernel_rfl)<|mE [] [6] (by kernel_rfl) (by kernel_rfl) (by kernel_rfl) (by kernel_rfl) rfl rfl (.c rfl rfl rfl rfl (.r (P2 fa24_1 rfl)) .n) ?_
         intro ab7 l7 nx7
         refine V4 (j:=2) z22 rfl rfl rfl (cOne oSv) ⟨oSv,trivial⟩ rfl (le_ rfl)<|nx7 (H'':=[.box b6 [.lit (.string r22.2.s),Ai .i64 r22.2.at_,Ab r22.2.bad],.own 46 cNode v26 (xs15++([r22.1]:List Node)),.box b9 [Ai .i64 r7.1,.sv v26],.box b2 [Ai .i64 (0:Int),.lit (.slice none 0 0)]]) [(47,.agg (cNode.e r22.1)),(48,.fsl cNode ([r22.1]:List Node)),(49,.sv v26)] [0,0,0,0] ⟨rfl,rfl,rfl,trivial⟩ (by repeat (first | with_reducible exact .z | refine .s rfl ?_)) rfl (by kernel_rfl)<|mEnd [] (by kernel_rfl) (by kernel_rfl) (by kernel_rfl) (.n)<|P4<|G0 rfl<|sQ (dMv rfl) rfl<|sQ (Q7 rfl rfl) rfl<|sQ (dAs rfl) rfl<|j0<|k4 (again0 (xs15++([r22.1]:List Node),r22.2.s,r22.2.at_,r22.2.bad,IntKind.wrap .i64 (i19+1)) v26) [1,0,0,0] ⟨rfl,rfl,rfl,rfl,rfl,rfl,trivial⟩ rfl
       ·refine J5 rfl<|k4 (out0 (xs15,c16,c17,c18,i19) v14) [0,0,0,0] ⟨rfl,rfl,rfl,rfl,rfl,rfl,trivial⟩ rfl
      ·refine sQu (j:=3) rfl rfl rfl (decide_eq_false h20) rfl rfl<|sQu (j:=3) rfl rfl rfl (decide_eq_false h20) rfl rfl<|sQu (j:=3) rfl rfl rfl (decide_eq_false h20) rfl rfl<|sQu (j:=3) rfl rfl rfl (decide_eq_false h20) rfl rfl<|sQu (j:=3) rfl rfl rfl (decide_eq_false h20) rfl rfl<|sQ (V0 rfl (decide_eq_false h20) rfl) rfl<|j0<|L7 rfl rfl<|J5 rfl<|k4 (out0 (xs15,c16,c17,c18,i19) v14) [0,0,0,0] ⟨rfl,rfl,rfl,rfl,rfl,rfl,trivial⟩ rfl
def M1.l1 (K:Nat) (a1:Cert) (i7:Int):Nat→((List Pick)×Int)→Option ((List Pick)×Int)
 | 0,_=>none
 | m+1,(xs13,j14)=>if j14<(((rd a1.Nodes i7).Picks).length:Int) then if 0≤j14 then if (([]:List Int).length+((rd ((rd a1.Nodes i7).Picks) j14).Kids).length)*8≤140737488355328 then if (xs13.length+([(⟨(rd ((rd a1.Nodes i7).Picks) j14).At,(rd ((rd a1.Nodes i7).Picks) j14).Conj,([]:List Int)++((rd ((rd a1.Nodes i7).Picks) j14).Kids)⟩:Pick)]:List Pick).length)*40≤140737488355328 then M1.l1 K a1 i7 m (xs13++([(⟨(rd ((rd a1.Nodes i7).Picks) j14).At,(rd ((rd a1.Nodes i7).Picks) j14).Conj,([]:List Int)++((rd ((rd a1.Nodes i7).Picks) j14).Kids)⟩:Pick)]:List Pick),IntKind.wrap .i64 (j14+1)) else none else none else none else some (xs13,j14)
def M1.l0 (K:Nat) (a1:Cert):Nat→((List Node)×Int)→Option ((List Node)×Int)
 | 0,_=>none
 | m+1,(xs6,i7)=>if i7<(a1.Nodes.length:Int) then if 0≤i7 then (M1.l1 K a1 i7 K (([]:List Pick),0)).bind fun (xs13,j14)=>if (xs6.length+([(⟨(rd a1.Nodes i7).Sign,(rd a1.Nodes i7).Kind,(rd a1.Nodes i7).Name,⟨(rd a1.Nodes i7).Place.Rule,(rd a1.Nodes i7).Place.Conj,(rd a1.Nodes i7).Place.Pos⟩,(rd a1.Nodes i7).I,(rd a1.Nodes i7).J,(rd a1.Nodes i7).Rank,xs13⟩:Node)]:List Node).length)*96≤140737488355328 then M1.l0 K a1 m (xs6++([(⟨(rd a1.Nodes i7).Sign,(rd a1.Nodes i7).Kind,(rd a1.Nodes i7).Name,⟨(rd a1.Nodes i7).Place.Rule,(rd a1.Nodes i7).Place.Conj,(rd a1.Nodes i7).Place.Pos⟩,(rd a1.Nodes i7).I,(rd a1.Nodes i7).J,(rd a1.Nodes i7).Rank,xs13⟩:Node)]:List Node),IntKind.wrap .i64 (i7+1)) else none else none else some (xs6,i7)
def M1 (K:Nat) (a1:Cert):Option Cert:=(M1.l0 K a1 K (([]:List Node),0)).bind fun (xs6,i7)=>some (⟨a1.Root,xs6⟩:Cert)
theorem y9 (K:Nat) (a1:Cert):Pure Try.prog 9 [.agg (cCert.e a1)] (M1 K a1) (fun r=>.agg (cCert.e r)):=by
 refine spec_of' Try.func9 rfl Try.ntmps9 (le_ rfl) ?_
 refine Q0<|G0 rfl<|sQ (ja (az:=cCert.e a1) rfl cAgg) rfl<|V5 (az:=[Ai .i64 (0:Int),.lit (.slice none 0 0)]) al24 (fun _ _=>.cons rfl (.cons rfl .nil)) rfl fun b2=>j0<|Q0<|G0 rfl<|sQ (dFA fa24_0 rfl) rfl<|sQ (dLd g3 rfl rfl) rfl<|sQ (G5 (az:=[Ai .i64 (0:Int),.lit (.slice none 0 0)]) Try.underlying24 zv24 pl24 (fun _ _=>.cons rfl (.cons rfl .nil)) (.c rfl rfl (cOne (oLit rfl)) rfl rfl .nil)) rfl<|V5 (az:=[Ai .i64 (0:Int),.lit (.slice none 0 0)]) al24 (fun _ _=>.cons rfl (.cons rfl .nil)) rfl fun b3=>V4 (j:=0) z24 rfl rfl rfl cAgg ⟨(oLit rfl),(oLit rfl),trivial⟩ rfl (le_ rfl)<|j0<|Q0<|Q0<|G0 rfl<|sQ (dAs rfl) rfl<|j0<|pc (c:=cNode) 0 1 46 rfl rfl fun v4=>G6 (M1.l0 K a1) (fun ((xs6,i7):((List Node)×Int)) (v5:Value)=>([(1,.fptr ((cCert.e a1))),(2,.lit (.pointer (some ⟨b2,0,none⟩))),(3,.lit (.pointer (some ⟨b3,0,none⟩))),(4,Ai .i64 i7)]:Fr)) (fun ((xs6,i7):((List Node)×Int)) (v5:Value)=>([.own 46 cNode v5 xs6,.box b3 [Ai .i64 a1.Root,.sv v5],.box b2 [Ai .i64 (0:Int),.lit (.slice none 0 0)]]:List Res)) (fun ((xs6,i7):((List Node)×Int)) (v5:Value)=>([(1,.fptr ((cCert.e a1))),(2,.lit (.pointer (some ⟨b2,0,none⟩))),(3,.lit (.pointer (some ⟨b3,0,none⟩))),(4,Ai .i64 i7)]:Fr)) (fun ((xs6,i7):((List Node)×Int)) (v5:Value)=>([.own 46 cNode v5 xs6,.box b3 [Ai .i64 a1.Root,.sv v5],.box b2 [Ai .i64 (0:Int),.lit (.slice none 0 0)]]:List Res)) v4 (fun _=>rfl) [] ⟨rfl,rfl,rfl,rfl,trivial⟩ rfl ?_ ?_
 ·rintro ⟨xs6,i7⟩ v5
  refine Q0<|G0 rfl<|sQ (J6 (j:=1) g24 z24 rfl rfl (le_ rfl)) rfl<|V4 (j:=2) z24 rfl rfl rfl cAgg ⟨(oLit rfl),oSv,trivial⟩ rfl (le_ rfl)<|j0<|sFz 0 rfl<|fc 2 1 0 rfl rfl rfl<|Q2 [2,1,0] Try.func9 Try.results9 (rC (j:=2) g24 z24 rfl rfl rfl) ⟨rfl,rfl⟩
 ·rintro m ⟨xs6,i7⟩ v5 again0 out0
  refine Q0<|Q0<|G0 rfl<|sQ (dMv rfl) rfl<|sQ (dFA fa24_1 rfl) rfl<|sQ (dLd g22 rfl rfl) rfl<|sQ (P6 Try.underlying22 rfl) rfl<|sQ (dLt rfl rfl) rfl<|j0<|P5 rfl (fun h8=>?_) (fun h8=>?_)
  ·refine M3<|Q0<|f7<|Q0<|G0 rfl<|sQ (dFA fa24_1 rfl) rfl<|sQ (dLd g22 rfl rfl) rfl<|sQ (dMv rfl) rfl<|t6 fun h9=>sQ (dIx Try.underlying22 z46 rfl rfl h9 h8) rfl<|sQ (G9 g46 z46 rfl (le_ rfl)) rfl<|V5 (az:=[Ab false,Ai .i64 (0:Int),Ai .i64 (0:Int),Ai .i64 (0:Int),Ai .i64 (0:Int),Ai .i64 (0:Int),Ai .i64 (0:Int),Ai .i64 (0:Int),Ai .i64 (0:Int),.lit (.slice none 0 0)]) al46 (fun _ _=>.cons rfl (.cons rfl (.cons rfl (.cons rfl (.cons rfl (.cons rfl (.cons rfl (.cons rfl (.cons rfl (.cons rfl .nil)))))))))) rfl fun b10=>V4 (j:=0) z46 rfl rfl rfl cAgg ((cNode).one _) rfl (le_ rfl)<|j0<|Q0<|G0 rfl<|sQ (P2 fa46_7 rfl) rfl<|V4 (j:=0) z44 rfl rfl rfl (cOne (oLit rfl)) ⟨(oLit rfl),trivial⟩ rfl (le_ rfl)<|j0<|Q0<|Q0<|G0 rfl<|sQ (dAs rfl) rfl<|j0<|pc (c:=cPick) 0 9 49 rfl rfl fun v11=>G6 (M1.l1 K a1 i7) (fun ((xs13,j14):((List Pick)×Int)) (v12:Value)=>([(1,.fptr ((cCert.e a1))),(2,.lit (.pointer (some ⟨b2,0,none⟩))),(3,.lit (.pointer (some ⟨b3,0,none⟩))),(4,Ai .i64 i7),(5,.lit (.pointer (some ⟨b10,0,none⟩))),(6,Ai .i64 j14)]:Fr)) (fun ((xs13,j14):((List Pick)×Int)) (v12:Value)=>([.own 49 cPick v12 xs13,.box b10 [Ab ((rd a1.Nodes i7).Sign),Ai .i64 ((rd a1.Nodes i7).Kind),Ai .i64 ((rd a1.Nodes i7).Name),Ai .i64 ((rd a1.Nodes i7).Place.Rule),Ai .i64 ((rd a1.Nodes i7).Place.Conj),Ai .i64 ((rd a1.Nodes i7).Place.Pos),Ai .i64 ((rd a1.Nodes i7).I),Ai .i64 ((rd a1.Nodes i7).J),Ai .i64 ((rd a1.Nodes i7).Rank),.sv v12],.own 46 cNode v5 xs6,.box b3 [Ai .i64 a1.Root,.sv v5],.box b2 [Ai .i64 (0:Int),.lit (.slice none 0 0)]]:List Res)) (fun ((xs13,j14):((List Pick)×Int)) (v12:Value)=>([(1,.fptr ((cCert.e a1))),(2,.lit (.pointer (some ⟨b2,0,none⟩))),(3,.lit (.pointer (some ⟨b3,0,none⟩))),(4,Ai .i64 i7),(5,.lit (.pointer (some ⟨b10,0,none⟩))),(6,Ai .i64 j14)]:Fr)) (fun ((xs13,j14):((List Pick)×Int)) (v12:Value)=>([.own 49 cPick v12 xs13,.box b10 [Ab ((rd a1.Nodes i7).Sign),Ai .i64 ((rd a1.Nodes i7).Kind),Ai .i64 ((rd a1.Nodes i7).Name),Ai .i64 ((rd a1.Nodes i7).Place.Rule),Ai .i64 ((rd a1.Nodes i7).Place.Conj),Ai .i64 ((rd a1.Nodes i7).Place.Pos),Ai .i64 ((rd a1.Nodes i7).I),Ai .i64 ((rd a1.Nodes i7).J),Ai .i64 ((rd a1.Nodes i7).Rank),.sv v12],.own 46 cNode v5 xs6,.box b3 [Ai .i64 a1.Root,.sv v5],.box b2 [Ai .i64 (0:Int),.lit (.slice none 0 0)]]:List Res)) v11 (fun _=>rfl) [] ⟨rfl,rfl,rfl,rfl,rfl,rfl,trivial⟩ rfl ?_ ?_
   ·rintro ⟨xs13,j14⟩ v12
    refine G0 rfl<|sQ (P2 fa24_1 rfl) rfl<|sQ (Q5 (j:=3) g22 rfl rfl rfl) rfl<|sQ (J6 (j:=1) g46 z46 rfl rfl (le_ rfl)) rfl<|gc 0 rfl<|zc 57 9 0 rfl rfl rfl<|cd 1 9 0 rfl rfl rfl<|sQ (dBS (c:=cNode) (xs:=([(⟨(rd a1.Nodes i7).Sign,(rd a1.Nodes i7).Kind,(rd a1.Nodes i7).Name,⟨(rd a1.Nodes i7).Place.Rule,(rd a1.Nodes i7).Place.Conj,(rd a1.Nodes i7).Place.Pos⟩,(rd a1.Nodes i7).I,(rd a1.Nodes i7).J,(rd a1.Nodes i7).Rank,xs13⟩:Node)]:List Node)) Try.underlying22 z46 P9 (.c rfl cAgg .nil) rfl) rfl<|t6 fun h23=>sAp (j:=2) Try.underlying22 P9 rfl rfl rfl rfl h23 rfl rfl fun v24=>sQ (P2 fa24_1 rfl) rfl<|V4 (j:=3) z22 rfl rfl rfl (cOne oSv) ⟨oSv,trivial⟩ rfl (le_ rfl)<|j0<|P4<|G0 rfl<|sQ (dMv rfl) rfl<|sQ (Q7 rfl rfl) rfl<|sQ (dAs rfl) rfl<|j0<|k4 (again0 (xs6++([(⟨(rd a1.Nodes i7).Sign,(rd a1.Nodes i7).Kind,(rd a1.Nodes i7).Name,⟨(rd a1.Nodes i7).Place.Rule,(rd a1.Nodes i7).Place.Conj,(rd a1.Nodes i7).Place.Pos⟩,(rd a1.Nodes i7).I,(rd a1.Nodes i7).J,(rd a1.Nodes i7).Rank,xs13⟩:Node)]:List Node),IntKind.wrap .i64 (i7+1)) v24) [2,2,2] ⟨rfl,rfl,rfl,rfl,trivial⟩ rfl
   ·rintro m ⟨xs13,j14⟩ v12 again1 out1
    refine Q0<|Q0<|G0 rfl<|sQ (dMv rfl) rfl<|sQ (dFA fa24_1 rfl) rfl<|sQ (dLd g22 rfl rfl) rfl<|sQ (dMv rfl) rfl<|sQ (dIx Try.underlying22 z46 rfl rfl h9 h8) rfl<|sQ (dFA fa46_7 rfl) rfl<|sQ (dLd g44 rfl rfl) rfl<|sQ (P6 Try.underlying44 rfl) rfl<|sQ (dLt rfl rfl) rfl<|j0<|P5 rfl (fun h15=>?_) (fun h15=>?_)
    ·refine M3<|Q0<|f7<|Q0<|G0 rfl<|sQ (dFA fa24_1 rfl) rfl<|sQ (dLd g22 rfl rfl) rfl<|sQ (dMv rfl) rfl<|sQ (dIx Try.underlying22 z46 rfl rfl h9 h8) rfl<|sQ (dFA fa46_7 rfl) rfl<|sQ (dLd g44 rfl rfl) rfl<|sQ (dMv rfl) rfl<|t6 fun h16=>sQ (dIx Try.underlying44 z49 rfl rfl h16 h15) rfl<|sQ (G9 g49 z49 rfl (le_ rfl)) rfl<|V5 (az:=[Ai .i64 (0:Int),Ai .i64 (0:Int),.lit (.slice none 0 0)]) al49 (fun _ _=>.cons rfl (.cons rfl (.cons rfl .nil))) rfl fun b17=>V4 (j:=0) z49 rfl rfl rfl cAgg ((cPick).one _) rfl (le_ rfl)<|j0<|Q0<|G0 rfl<|sQ (dBS0 (c:=(cI .i64)) Try.underlying47 z3 La) rfl<|sQ (P2 fa49_2 rfl) rfl<|sQ (Q5 (j:=0) g47 rfl rfl rfl) rfl<|sEsL 44 3 (cI .i64) rfl fun v18=>t6 fun h19=>sAp (j:=0) Try.underlying47 La rfl rfl rfl rfl h19 rfl rfl fun v20=>sQ (P2 fa49_2 rfl) rfl<|V4 (j:=1) z47 rfl rfl rfl (cOne oSv) ⟨oSv,trivial⟩ rfl (le_ rfl)<|j0<|G0 rfl<|sQ (P2 fa46_7 rfl) rfl<|sQ (Q5 (j:=3) g44 rfl rfl rfl) rfl<|sQ (J6 (j:=1) g49 z49 rfl rfl (le_ rfl)) rfl<|gc 0 rfl<|zc 51 2 0 rfl rfl rfl<|cd 1 2 0 rfl rfl rfl<|sQ (dBS (c:=cPick) (xs:=([(⟨(rd ((rd a1.Nodes i7).Picks) j14).At,(rd ((rd a1.Nodes i7).Picks) j14).Conj,([]:List Int)++((rd ((rd a1.Nodes i7).Picks) j14).Kids)⟩:Pick)]:List Pick)) Try.underlying44 z49 Q9 (.c rfl cAgg .nil) rfl) rfl<|t6 fun h21=>sAp (j:=2) Try.underlying44 Q9 rfl rfl rfl rfl h21 rfl rfl fun v22=>sQ (P2 fa46_7 rfl) rfl<|V4 (j:=3) z44 rfl rfl rfl (cOne oSv) ⟨oSv,trivial⟩ rfl (le_ rfl)<|j0<|P4<|G0 rfl<|sQ (dMv rfl) rfl<|sQ (Q7 rfl rfl) rfl<|sQ (dAs rfl) rfl<|j0<|k4 (again1 (xs13++([(⟨(rd ((rd a1.Nodes i7).Picks) j14).At,(rd ((rd a1.Nodes i7).Picks) j14).Conj,([]:List Int)++((rd ((rd a1.Nodes i7).Picks) j14).Kids)⟩:Pick)]:List Pick),IntKind.wrap .i64 (j14+1)) v22) [2,2,2,2,2] ⟨rfl,rfl,rfl,rfl,rfl,rfl,trivial⟩ rfl
    ·refine J5 rfl<|k4 (out1 (xs13,j14) v12) [0,0,0,0,0] ⟨rfl,rfl,rfl,rfl,rfl,rfl,trivial⟩ rfl
  ·refine J5 rfl<|k4 (out0 (xs6,i7) v5) [0,0,0] ⟨rfl,rfl,rfl,rfl,trivial⟩ rfl
def J7.l0 (K:Nat):Nat→((List Int)×Int)→Option ((List Int)×Int)
 | 0,_=>none
 | m+1,(xs3,i4)=>if i4<(xs3.length:Int) then if 0≤i4 then J7.l0 K m (xs3.set i4.toNat (IntKind.wrap .i64 ((-9)-(rd xs3 i4))),IntKind.wrap .i64 (i4+1)) else none else some (xs3,i4)
def J7 (K:Nat) (a1:(List Int)):Option (List Int):=(J7.l0 K K (a1,0)).bind fun (xs3,i4)=>some xs3
set_option linter.unusedSimpArgs false
def B1 (x:Int):List Int:=[x]
def B2 (x:Int):List Int:=[x / 256,x % 256]
def B4 (x:Int):List Int:=[x / 16777216,x / 65536 % 256,x / 256 % 256,x % 256]
def F1 (x:Int):Prop:=0≤x∧x<256
def F2 (x:Int):Prop:=0≤x∧x<65536
def F4 (x:Int):Prop:=0≤x∧x<4294967296
instance (x:Int):Decidable (F1 x):=by unfold F1;infer_instance
instance (x:Int):Decidable (F2 x):=by unfold F2;infer_instance
instance (x:Int):Decidable (F4 x):=by unfold F4;infer_instance
theorem ishr_i64 (x:Int) (j:Nat) (hj:j≤64):ishr .i64 x (j:Int)=x.fdiv (2 ^ j):=by
 unfold ishr
 rw [Int.toNat_natCast,show IntKind.i64.bits=64 from rfl,Nat.min_eq_left hj]
theorem ishr_u64 (x:Int) (j:Nat) (hj:j≤64):ishr .u64 x (j:Int)=x.fdiv (2 ^ j):=by
 unfold ishr
 rw [Int.toNat_natCast,show IntKind.u64.bits=64 from rfl,Nat.min_eq_left hj]
theorem w8 (x:Int):IntKind.wrap .u8 x=x % 256:=IntKind.wrap_u8 x
theorem fd (x:Int) (d:Int) (hd:0≤d):x.fdiv d=x / d:=Int.fdiv_eq_ediv_of_nonneg x hd
theorem num_head (K:Nat) (w:Pack_writer) (x:Int) (hx:x≤9223372036854775807) (s:Nat) (hs:s≤4) :
  M2 K w x (s:Int)=if 0≤x∧x<256 ^ s then (M2.l0 K x K (w.out_,(s:Int)-1)).bind fun p=>some ⟨p.1,w.bad⟩ else some ⟨w.out_,true⟩:=by
 unfold M2
 have w1:IntKind.wrap .i64 (8*(s:Int))=((8*s:Nat):Int):=by rw [wr (by omega) (by omega)];simp
 have w2:IntKind.wrap .i64 ((s:Int)-1)=(s:Int)-1:=wr (by omega) (by omega)
 by_cases h0:x<0
 ·rw [if_pos h0,if_neg (by omega)]
 ·rw [if_neg h0,w1,w2,if_pos (Int.natCast_nonneg _),ishr_u64 _ _ (by omega),wu (a:=x) (by omega) (by omega),fd _ _ (by exact_mod_cast Nat.zero_le _)]
  have hp:(2:Int) ^ (8*s)=256 ^ s:=by rw [Int.pow_mul];rfl
  rw [hp]
  have hpos:(0:Int)<256 ^ s:=by have:=Nat.pow_pos (n:=s) (show 0<256 by decide);exact_mod_cast this
  by_cases hlt:x<256 ^ s
  ·rw [Int.ediv_eq_zero_of_lt (by omega) hlt,if_neg (by simp),if_pos ⟨by omega,hlt⟩]
  ·have:x / 256 ^ s≠0:=by
    have:=Int.le_ediv_of_mul_le hpos (by omega:1*(256:Int) ^ s≤x)
    omega
   rw [if_pos this,if_neg (fun h=>hlt h.2)]
theorem num_step (K m:Nat) (x:Int) (xs:List Int) (i:Nat) (hi:i≤3) (hl:xs.length+1≤140737488355328):M2.l0 K x (m+1) (xs,(i:Int))=M2.l0 K x m (xs++[x / 256 ^ i % 256],(i:Int)-1):=by
 have w1:IntKind.wrap .i64 (8*(i:Int))=((8*i:Nat):Int):=by rw [wr (by omega) (by omega)];simp
 have w2:IntKind.wrap .i64 ((i:Int)-1)=(i:Int)-1:=wr (by omega) (by omega)
 simp only [M2.l0,w1,w2]
 rw [if_pos (Int.natCast_nonneg i),if_pos (Int.natCast_nonneg _),if_pos (by simp only [List.length_singleton];omega),ishr_i64 _ _ (by omega),w8,fd _ _ (by exact_mod_cast Nat.zero_le _)]
 have hp:(2:Int) ^ (8*i)=256 ^ i:=by rw [Int.pow_mul];rfl
 rw [hp]
theorem num_end (K m:Nat) (x:Int) (xs:List Int):M2.l0 K x (m+1) (xs,-1)=some (xs,-1):=by
 simp only [M2.l0];rfl
theorem num1 (K:Nat) (hK:5≤K) (w:Pack_writer) (x:Int) (hx:x≤9223372036854775807) (hl:w.out_.length+4≤140737488355328):M2 K w x 1=some (if F1 x then ⟨w.out_++B1 x,w.bad⟩ else ⟨w.out_,true⟩):=by
 obtain ⟨m,rfl⟩:∃ m,K=m+5:=⟨K-5,by omega⟩
 have h:=num_head (m+5) w x hx 1 (by omega)
 rw [show (256:Int) ^ 1=256 from rfl] at h
 have e:((1:Nat):Int)=1:=rfl
 rw [e] at h
 rw [h]
 by_cases hf:F1 x
 ·rw [if_pos (show 0≤x∧x<256 from hf),if_pos hf]
  have s0:=num_step (m+5) (m+4) x w.out_ 0 (by omega) (by omega)
  rw [show ((1:Int)-1)=((0:Nat):Int) from rfl,s0]
  rw [show ((0:Nat):Int)-1 = -1 from rfl,num_end]
  obtain ⟨h1,h2⟩:=hf
  have e0:x / 256 ^ 0 % 256=x:=by rw [show (256:Int) ^ 0=1 from rfl];omega
  simp only [e0,B1,Option.bind_some]
 ·rw [if_neg (show ¬ (0≤x∧x<256) from hf),if_neg hf]
theorem num2 (K:Nat) (hK:5≤K) (w:Pack_writer) (x:Int) (hx:x≤9223372036854775807) (hl:w.out_.length+4≤140737488355328):M2 K w x 2=some (if F2 x then ⟨w.out_++B2 x,w.bad⟩ else ⟨w.out_,true⟩):=by
 obtain ⟨m,rfl⟩:∃ m,K=m+5:=⟨K-5,by omega⟩
 have h:=num_head (m+5) w x hx 2 (by omega)
 rw [show (256:Int) ^ 2=65536 from rfl] at h
 have e:((2:Nat):Int)=2:=rfl
 rw [e] at h
 rw [h]
 by_cases hf:F2 x
 ·rw [if_pos (show 0≤x∧x<65536 from hf),if_pos hf]
  have s1:=num_step (m+5) (m+4) x w.out_ 1 (by omega) (by omega)
  have s0:=num_step (m+5) (m+3) x (w.out_++[x / 256 ^ 1 % 256]) 0 (by omega) (by simp;omega)
  rw [show ((2:Int)-1)=((1:Nat):Int) from rfl,s1]
  rw [show ((1:Nat):Int)-1=((0:Nat):Int) from rfl,s0]
  rw [show ((0:Nat):Int)-1 = -1 from rfl,num_end]
  obtain ⟨h1,h2⟩:=hf
  have e1:x / 256 ^ 1 % 256=x / 256:=by rw [show (256:Int) ^ 1=256 from rfl];omega
  have e0:x / 256 ^ 0 % 256=x % 256:=by rw [show (256:Int) ^ 0=1 from rfl];omega
  simp only [e1,e0,B2,Option.bind_some,List.append_assoc,List.cons_append,List.nil_append]
 ·rw [if_neg (show ¬ (0≤x∧x<65536) from hf),if_neg hf]
theorem num4 (K:Nat) (hK:5≤K) (w:Pack_writer) (x:Int) (hx:x≤9223372036854775807) (hl:w.out_.length+4≤140737488355328):M2 K w x 4=some (if F4 x then ⟨w.out_++B4 x,w.bad⟩ else ⟨w.out_,true⟩):=by
 obtain ⟨m,rfl⟩:∃ m,K=m+5:=⟨K-5,by omega⟩
 have h:=num_head (m+5) w x hx 4 (by omega)
 rw [show (256:Int) ^ 4=4294967296 from rfl] at h
 have e:((4:Nat):Int)=4:=rfl
 rw [e] at h
 rw [h]
 by_cases hf:F4 x
 ·rw [if_pos (show 0≤x∧x<4294967296 from hf),if_pos hf]
  have s3:=num_step (m+5) (m+4) x w.out_ 3 (by omega) (by omega)
  have s2:=num_step (m+5) (m+3) x (w.out_++[x / 256 ^ 3 % 256]) 2 (by omega) (by simp;omega)
  have s1:=num_step (m+5) (m+2) x ((w.out_++[x / 256 ^ 3 % 256])++[x / 256 ^ 2 % 256]) 1 (by omega) (by simp;omega)
  have s0:=num_step (m+5) (m+1) x (((w.out_++[x / 256 ^ 3 % 256])++[x / 256 ^ 2 % 256])++[x / 256 ^ 1 % 256]) 0 (by omega) (by simp;omega)
  rw [show ((4:Int)-1)=((3:Nat):Int) from rfl,s3]
  rw [show ((3:Nat):Int)-1=((2:Nat):Int) from rfl,s2]
  rw [show ((2:Nat):Int)-1=((1:Nat):Int) from rfl,s1]
  rw [show ((1:Nat):Int)-1=((0:Nat):Int) from rfl,s0]
  rw [show ((0:Nat):Int)-1 = -1 from rfl,num_end]
  obtain ⟨h1,h2⟩:=hf
  have e3:x / 256 ^ 3 % 256=x / 16777216:=by rw [show (256:Int) ^ 3=16777216 from rfl];omega
  have e2:x / 256 ^ 2 % 256=x / 65536 % 256:=by rw [show (256:Int) ^ 2=65536 from rfl]
  have e1:x / 256 ^ 1 % 256=x / 256 % 256:=by rw [show (256:Int) ^ 1=256 from rfl]
  have e0:x / 256 ^ 0 % 256=x % 256:=by rw [show (256:Int) ^ 0=1 from rfl];omega
  simp only [e3,e2,e1,e0,B4,Option.bind_some,List.append_assoc,List.cons_append,List.nil_append]
 ·rw [if_neg (show ¬ (0≤x∧x<4294967296) from hf),if_neg hf]
def Fs (p:Int×Int):Prop:=if p.2=1 then F1 p.1 else if p.2=2 then F2 p.1 else F4 p.1
def Bs (p:Int×Int):List Int:=if p.2=1 then B1 p.1 else if p.2=2 then B2 p.1 else B4 p.1
def Sz (p:Int×Int):Prop:=(p.2=1∨p.2=2∨p.2=4)∧p.1≤9223372036854775807
instance (p:Int×Int):Decidable (Fs p):=by unfold Fs;infer_instance
theorem Bs_len (p:Int×Int):(Bs p).length≤4:=by unfold Bs;split <;> (try split) <;> simp [B1,B2,B4]
structure WR (w w':Pack_writer) (bs:List Int) (ok:Prop):Prop where
 good:w.bad=false→ok→w'=⟨w.out_++bs,false⟩
 bad:(w.bad=true∨¬ ok)→w'.bad=true
 len:w'.out_.length≤w.out_.length+bs.length
theorem WR.refl (w:Pack_writer):WR w w [] True:=⟨fun h _=>by cases w;simp at h;subst h;simp,fun h=>h.elim id fun h=>absurd trivial h,by simp⟩
theorem WR.trans {w w1 w2:Pack_writer} {b1 b2:List Int} {p q:Prop} (h1:WR w w1 b1 p) (h2:WR w1 w2 b2 q):WR w w2 (b1++b2) (p∧q):=by
 refine ⟨fun hb ⟨hp,hq⟩=>?_,fun h=>?_,by have:=h1.len;have:=h2.len;rw [List.length_append];omega⟩
 ·have e:=h1.good hb hp
  have:=h2.good (by rw [e]) hq
  rw [this,e,List.append_assoc]
 ·by_cases hw:w1.bad=true
  ·exact h2.bad (.inl hw)
  ·refine h2.bad (.inr fun hq=>?_)
   rcases h with h | h
   ·exact hw (h1.bad (.inl h))
   ·by_cases hp:p
    ·exact h ⟨hp,hq⟩
    ·exact hw (h1.bad (.inr hp))
theorem WR.cong {w w':Pack_writer} {bs cs:List Int} {p q:Prop} (h:WR w w' bs p) (hb:bs=cs) (hp:p↔q):WR w w' cs q:=by
 subst hb
 exact ⟨fun a b=>h.good a (hp.2 b),fun a=>h.bad (a.imp id fun x y=>x (hp.1 y)),h.len⟩
theorem num_spec (K:Nat) (hK:5≤K) (w:Pack_writer) (p:Int×Int) (hp:Sz p) (hl:w.out_.length+4≤140737488355328):∃ w',M2 K w p.1 p.2=some w'∧WR w w' (Bs p) (Fs p):=by
 obtain ⟨x,s⟩:=p
 obtain ⟨hs,hx⟩:=hp
 have key:∃ bs:List Int,∃ ok:Prop,∃ _:Decidable ok,bs=Bs (x,s)∧(ok↔Fs (x,s))∧M2 K w x s=some (if ok then ⟨w.out_++bs,w.bad⟩ else ⟨w.out_,true⟩):=by
  rcases hs with hs | hs | hs
  ·simp only at hs;subst hs;exact ⟨_,_,inferInstance,rfl,Iff.rfl,num1 K hK w x hx hl⟩
  ·simp only at hs;subst hs;exact ⟨_,_,inferInstance,rfl,Iff.rfl,num2 K hK w x hx hl⟩
  ·simp only at hs;subst hs;exact ⟨_,_,inferInstance,rfl,Iff.rfl,num4 K hK w x hx hl⟩
 obtain ⟨bs,ok,hd,rfl,hok,h⟩:=key
 refine ⟨_,h,?_⟩
 by_cases ho:ok
 ·rw [if_pos ho]
  exact ⟨fun hb _=>by rw [hb],fun h=>h.elim id fun h=>absurd (hok.1 ho) h,by simp⟩
 ·rw [if_neg ho]
  exact ⟨fun _ hf=>absurd (hok.2 hf) ho,fun _=>rfl,by simp⟩
theorem nums_spec (K:Nat) (hK:5≤K) (w:Pack_writer) (ps:List (Int×Int)) (hps:∀ p ∈ ps,Sz p) (hK':ps.length<K) (hk:ps.length≤100) (hl:w.out_.length+4*ps.length+4≤140737488355328) :
  ∃ w',M4 K w ps=some w'∧WR w w' ((ps.map Bs).flatten) (∀ p ∈ ps,Fs p):=by
 have:=rounds (L:=M4.l0 K ps) (fun s=>∃ t:Nat,s.2.2=t∧t≤ps.length∧s.1.length≤w.out_.length+4*t∧WR w ⟨s.1,s.2.1⟩ (((ps.take t).map Bs).flatten) (∀ p ∈ ps.take t,Fs p)) (fun s=>ps.length-s.2.2.toNat) (fun r=>WR w ⟨r.1,r.2.1⟩ ((ps.map Bs).flatten) (∀ p ∈ ps,Fs p)) (fun s m hI=>?_) K (w.out_,w.bad,0) ⟨0,rfl,by omega,by simp,(WR.refl w).cong (by simp) (by simp)⟩ (by simp only [Int.toNat_zero];omega)
 ·obtain ⟨⟨xs,c,t⟩,h1,h2⟩:=this
  exact ⟨⟨xs,c⟩,by unfold M4;rw [h1];rfl,h2⟩
 obtain ⟨xs,c,t'⟩:=s
 obtain ⟨t,rfl,ht,hlen,hw⟩:=hI
 simp only at hlen hw
 simp only [M4.l0]
 by_cases hlt:(t:Int)<ps.length
 ·have hlt':t<ps.length:=by omega
  obtain ⟨w',h1,h2⟩:=num_spec K hK ⟨xs,c⟩ (rd ps t) (hps _ (rd_mem (Int.natCast_nonneg t) hlt)) (by simp only;omega)
  rw [if_pos hlt,if_pos (Int.natCast_nonneg t),h1,Option.bind_some,wr (a:=(t:Int)+1) (by omega) (by omega)]
  have e:ps.take (t+1)=ps.take t++[rd ps t]:=by
   rw [List.take_add_one,rd_nat]
   simp [List.getD_eq_getElem?_getD,hlt']
  refine .inr ⟨(w'.out_,w'.bad,(t:Int)+1),⟨t+1,by simp,by omega,?_,?_⟩,by simp only;omega,rfl⟩
  ·have:=h2.len
   have:=Bs_len (rd ps t)
   simp only at *
   omega
  ·refine (hw.trans h2).cong ?_ ?_
   ·rw [e];simp
   ·rw [e];simp only [List.mem_append,List.mem_singleton]
    exact ⟨fun ⟨a,b⟩ p hp=>hp.elim (a p) fun h=>h ▸ b,fun h=>⟨fun p hp=>h p (.inl hp),h _ (.inr rfl)⟩⟩
 ·have:t=ps.length:=by omega
  subst this
  rw [if_neg hlt]
  exact .inl ⟨_,rfl,by simpa using hw⟩
def kidsB (ks:List Int):List Int:=(ks.map B4).flatten
def pickB (p:Pick):List Int:=B2 p.At++(B1 p.Conj++(B1 (p.Kids.length:Int)++kidsB p.Kids))
def picksB (ps:List Pick):List Int:=(ps.map pickB).flatten
def headB (x:Node):List Int:=B1 (if x.Sign=true then 1 else 0)++(B1 x.Kind++(B2 x.Name++(B2 x.Place.Rule++(B1 x.Place.Conj++(B1 x.Place.Pos++(B1 x.I++(B1 x.J++(B4 x.Rank++B2 (x.Picks.length:Int)))))))))
def nodeB (x:Node):List Int:=headB x++picksB x.Picks
def nodesB (xs:List Node):List Int:=(xs.map nodeB).flatten
def shapeOk (x:Node):Prop:=(x.Kind=0∧x.Place=⟨0,0,0⟩)∨(x.Kind=1∧x.Name=0)
def pickOk (p:Pick):Prop:=F2 p.At∧F1 p.Conj∧F1 (p.Kids.length:Int)∧∀ k ∈ p.Kids,F4 k
def headOk (x:Node):Prop:=F1 x.Kind∧F2 x.Name∧F2 x.Place.Rule∧F1 x.Place.Conj∧F1 x.Place.Pos∧F1 x.I∧F1 x.J∧F4 x.Rank∧F2 (x.Picks.length:Int)
def nodeOk (x:Node):Prop:=shapeOk x∧headOk x∧∀ p ∈ x.Picks,pickOk p
theorem kidsB_len (ks:List Int):(kidsB ks).length=4*ks.length:=by
 induction ks with
 | nil=>rfl
 | cons k ks ih=>simp only [kidsB,List.map_cons,List.flatten_cons,List.length_append,List.length_cons] at ih ⊢;rw [ih];simp [B4];omega
theorem pickB_len (p:Pick):(pickB p).length=4+4*p.Kids.length:=by
 simp only [pickB,List.length_append,kidsB_len];simp [B1,B2];omega
theorem headB_len (x:Node):(headB x).length=16:=by simp [headB,B1,B2,B4]
def Small (n:Int):Prop:=n≤9223372036854775807
def pickSm (p:Pick):Prop:=Small p.At∧Small p.Conj∧∀ k ∈ p.Kids,Small k
def nodeSm (x:Node):Prop:=Small x.Kind∧Small x.Name∧Small x.Place.Rule∧Small x.Place.Conj∧Small x.Place.Pos∧Small x.I∧Small x.J∧Small x.Rank∧∀ p ∈ x.Picks,pickSm p
theorem shape_spec (K:Nat) (x:Node):∃ b,p8 K x=some b∧(b=true↔shapeOk x):=by
 unfold p8 shapeOk
 by_cases h0:x.Kind=0
 ·rw [if_pos h0]
  exact ⟨_,rfl,by simp [h0]⟩
 ·rw [if_neg h0]
  by_cases h1:x.Kind=1
  ·rw [if_pos h1];exact ⟨_,rfl,by simp [h1]⟩
  ·rw [if_neg h1];exact ⟨_,rfl,by simp [h0,h1]⟩
theorem kids_spec (K:Nat) (hK:5≤K) (x:Node) (t:Int) (ks:List Int) (hks:(rd x.Picks t).Kids=ks) (hsm:∀ k ∈ ks,Small k) (w:Pack_writer) (hl:w.out_.length+4*ks.length+8≤140737488355328) (m:Nat) (hm:ks.length<m) :
  ∃ r,W2.l1 K x t m (w.out_,w.bad,0)=some r∧WR w ⟨r.1,r.2.1⟩ (kidsB ks) (∀ k ∈ ks,F4 k):=by
 refine rounds (L:=W2.l1 K x t) (fun s=>∃ i:Nat,s.2.2=i∧i≤ks.length∧WR w ⟨s.1,s.2.1⟩ (kidsB (ks.take i)) (∀ k ∈ ks.take i,F4 k)) (fun s=>ks.length-s.2.2.toNat) (fun r=>WR w ⟨r.1,r.2.1⟩ (kidsB ks) (∀ k ∈ ks,F4 k)) (fun s m hI=>?_) m (w.out_,w.bad,0) ⟨0,rfl,by omega,(WR.refl w).cong (by simp [kidsB]) (by simp)⟩ (by simp only [Int.toNat_zero];omega)
 obtain ⟨xs,c,i'⟩:=s
 obtain ⟨i,rfl,hi,hw⟩:=hI
 simp only at hw
 simp only [W2.l1,hks]
 by_cases hlt:(i:Int)<ks.length
 ·have hlt':i<ks.length:=by omega
  have hlen:=hw.len
  rw [kidsB_len,List.length_take] at hlen
  obtain ⟨w',h1,h2⟩:=num_spec K hK ⟨xs,c⟩ (rd ks i,4) ⟨.inr (.inr rfl),hsm _ (rd_mem (Int.natCast_nonneg i) hlt)⟩ (by simp only at hlen ⊢;omega)
  simp only at h1
  rw [if_pos hlt,if_pos (Int.natCast_nonneg i),h1,Option.bind_some,wr (a:=(i:Int)+1) (by omega) (by omega)]
  have e:ks.take (i+1)=ks.take i++[rd ks i]:=by
   rw [List.take_add_one,rd_nat]
   simp [List.getD_eq_getElem?_getD,hlt']
  refine .inr ⟨(w'.out_,w'.bad,(i:Int)+1),⟨i+1,by simp,by omega,(hw.trans h2).cong ?_ ?_⟩,by simp only;omega,rfl⟩
  ·rw [e];simp [kidsB,Bs]
  ·rw [e];simp only [List.mem_append,List.mem_singleton]
   exact ⟨fun ⟨a,b⟩ p hp=>hp.elim (a p) fun h=>h ▸ b,fun h=>⟨fun p hp=>h p (.inl hp),h _ (.inr rfl)⟩⟩
 ·have:i=ks.length:=by omega
  subst this
  rw [if_neg hlt]
  exact .inl ⟨_,rfl,by simpa using hw⟩
theorem picksB_take {ps:List Pick} {i:Nat} (h:i<ps.length):picksB (ps.take (i+1))=picksB (ps.take i)++pickB (rd ps (i:Int)):=by
 have e:ps.take (i+1)=ps.take i++[rd ps (i:Int)]:=by
  rw [List.take_add_one,rd_nat]
  simp [List.getD_eq_getElem?_getD,h]
 rw [e];simp [picksB]
theorem picksB_mono (ps:List Pick) (i:Nat):(picksB (ps.take i)).length≤(picksB ps).length:=by
 have:picksB ps=picksB (ps.take i)++picksB (ps.drop i):=by
  unfold picksB
  rw [← List.flatten_append,← List.map_append,List.take_append_drop]
 rw [this,List.length_append];omega
theorem picks_spec (K:Nat) (hK:5≤K) (x:Node) (hsm:∀ p ∈ x.Picks,pickSm p) (hp64:x.Picks.length≤9223372036854775000) (hk64:∀ p ∈ x.Picks,p.Kids.length<K∧p.Kids.length≤9223372036854775000) (w:Pack_writer) (hl:w.out_.length+(picksB x.Picks).length+32≤140737488355328) (m:Nat) (hm:x.Picks.length<m) :
  ∃ r,W2.l0 K x m (w.out_,w.bad,0)=some r∧WR w ⟨r.1,r.2.1⟩ (picksB x.Picks) (∀ p ∈ x.Picks,pickOk p):=by
 refine rounds (L:=W2.l0 K x) (fun s=>∃ i:Nat,s.2.2=i∧i≤x.Picks.length∧WR w ⟨s.1,s.2.1⟩ (picksB (x.Picks.take i)) (∀ p ∈ x.Picks.take i,pickOk p)) (fun s=>x.Picks.length-s.2.2.toNat) (fun r=>WR w ⟨r.1,r.2.1⟩ (picksB x.Picks) (∀ p ∈ x.Picks,pickOk p)) (fun s m hI=>?_) m (w.out_,w.bad,0) ⟨0,rfl,by omega,(WR.refl w).cong (by simp [picksB]) (by simp)⟩ (by simp only [Int.toNat_zero];omega)
 obtain ⟨xs,c,i'⟩:=s
 obtain ⟨i,rfl,hi,hw⟩:=hI
 simp only at hw
 simp only [W2.l0]
 by_cases hlt:(i:Int)<x.Picks.length
 ·have hlt':i<x.Picks.length:=by omega
  have hpm:=rd_mem (Int.natCast_nonneg i) hlt
  obtain ⟨s1,s2,s3⟩:=hsm _ hpm
  obtain ⟨k1,k2⟩:=hk64 _ hpm
  have htk:=picksB_take hlt'
  have hmono:=picksB_mono x.Picks (i+1)
  rw [htk,List.length_append,pickB_len] at hmono
  have hlen:=hw.len
  simp only at hlen
  obtain ⟨w1,h1,h2⟩:=nums_spec K hK ⟨xs,c⟩ [((rd x.Picks i).At,2),((rd x.Picks i).Conj,1),((((rd x.Picks i).Kids).length:Int),1)] (by
   intro p hp
   simp only [List.mem_cons,List.not_mem_nil,or_false] at hp
   rcases hp with rfl | rfl | rfl
   ·exact ⟨.inr (.inl rfl),s1⟩
   ·exact ⟨.inl rfl,s2⟩
   ·exact ⟨.inl rfl,by simp only;omega⟩) (by simp;omega) (by simp) (by simp only [List.length_cons,List.length_nil];omega)
  have hlen1:=h2.len
  simp only [List.map_cons,List.map_nil,List.flatten_cons,List.flatten_nil,List.length_append,List.length_nil,Bs,B1,B2] at hlen1
  simp at hlen1
  obtain ⟨r,h3,h4⟩:=kids_spec K hK x i (rd x.Picks i).Kids rfl s3 w1 (by omega) K k1
  rw [if_pos hlt,if_pos (Int.natCast_nonneg i),h1,Option.bind_some,h3,Option.bind_some,wr (a:=(i:Int)+1) (by omega) (by omega)]
  refine .inr ⟨(r.1,r.2.1,(i:Int)+1),⟨i+1,by simp,by omega,((hw.trans h2).trans h4).cong ?_ ?_⟩,by simp only;omega,rfl⟩
  ·rw [htk];simp [pickB,Bs]
  ·have e:x.Picks.take (i+1)=x.Picks.take i++[rd x.Picks (i:Int)]:=by
    rw [List.take_add_one,rd_nat]
    simp [List.getD_eq_getElem?_getD,hlt']
   rw [e]
   simp only [List.mem_append,List.mem_cons,List.not_mem_nil,or_false]
   constructor
   ·rintro ⟨⟨a,b⟩,d⟩ p (hp | rfl)
    ·exact a p hp
    ·exact ⟨b _ (.inl rfl),b _ (.inr (.inl rfl)),b _ (.inr (.inr rfl)),d⟩
   ·intro h
    obtain ⟨q1,q2,q3,q4⟩:=h _ (.inr rfl)
    refine ⟨⟨fun p hp=>h p (.inl hp),?_⟩,q4⟩
    rintro p (rfl | rfl | rfl)
    ·exact q1
    ·exact q2
    ·exact q3
 ·have:i=x.Picks.length:=by omega
  subst this
  rw [if_neg hlt]
  exact .inl ⟨_,rfl,by simpa using hw⟩
theorem node_spec (K:Nat) (hK:20≤K) (x:Node) (hsm:nodeSm x) (hp:x.Picks.length<K) (hp64:x.Picks.length≤9223372036854775000) (hk64:∀ p ∈ x.Picks,p.Kids.length<K∧p.Kids.length≤9223372036854775000) (w:Pack_writer) (hl:w.out_.length+(nodeB x).length+100≤140737488355328) :
  ∃ w',W2 K w x=some w'∧WR w w' (nodeB x) (nodeOk x):=by
 obtain ⟨m1,m2,m3,m4,m5,m6,m7,m8,m9⟩:=hsm
 obtain ⟨b,hb,hbi⟩:=shape_spec K x
 have hnl:(nodeB x).length=16+(picksB x.Picks).length:=by rw [nodeB,List.length_append,headB_len]
 have h0:∃ c,(if w.bad=true then some true else (p8 K x).bind fun r=>some (!r))=some c∧WR w ⟨w.out_,c⟩ [] (shapeOk x):=by
  cases hw:w.bad with
  | true=>exact ⟨true,by simp,fun h=>by simp [hw] at h,fun _=>rfl,by simp⟩
  | false =>
   refine ⟨!b,by simp [hb],fun _ h=>by simp [hbi.2 h],fun h=>?_,by simp⟩
   rcases h with h | h
   ·rw [hw] at h;cases h
   ·cases b with
    | true=>exact absurd (hbi.1 rfl) h
    | false=>rfl
 obtain ⟨c,hc,r0⟩:=h0
 have hbit:Ja K x.Sign=some (if x.Sign=true then 1 else 0):=by unfold Ja;split <;> rfl
 obtain ⟨w1,h1,r1⟩:=nums_spec K (by omega) ⟨w.out_,c⟩ [((if x.Sign=true then 1 else 0),1),(x.Kind,1),(x.Name,2),(x.Place.Rule,2),(x.Place.Conj,1),(x.Place.Pos,1)] (by
   intro p hp
   simp only [List.mem_cons,List.not_mem_nil,or_false] at hp
   rcases hp with rfl | rfl | rfl | rfl | rfl | rfl
   ·exact ⟨.inl rfl,by simp only;split <;> omega⟩
   ·exact ⟨.inl rfl,m1⟩
   ·exact ⟨.inr (.inl rfl),m2⟩
   ·exact ⟨.inr (.inl rfl),m3⟩
   ·exact ⟨.inl rfl,m4⟩
   ·exact ⟨.inl rfl,m5⟩) (by simp;omega) (by simp) (by simp only [List.length_cons,List.length_nil];omega)
 have l1:=r1.len
 simp [Bs,B1,B2] at l1
 obtain ⟨w2,h2,r2⟩:=nums_spec K (by omega) w1 [(x.I,1),(x.J,1),(x.Rank,4),((x.Picks.length:Int),2)] (by
   intro p hp
   simp only [List.mem_cons,List.not_mem_nil,or_false] at hp
   rcases hp with rfl | rfl | rfl | rfl
   ·exact ⟨.inl rfl,m6⟩
   ·exact ⟨.inl rfl,m7⟩
   ·exact ⟨.inr (.inr rfl),m8⟩
   ·exact ⟨.inr (.inl rfl),by simp only;omega⟩) (by simp;omega) (by simp) (by simp only [List.length_cons,List.length_nil];omega)
 have l2:=r2.len
 simp [Bs,B1,B2,B4] at l2
 obtain ⟨r,h3,r3⟩:=picks_spec K (by omega) x m9 hp64 hk64 w2 (by omega) K hp
 unfold W2
 rw [hc,Option.bind_some,hbit,Option.bind_some,h1,Option.bind_some,h2,Option.bind_some,h3,Option.bind_some]
 refine ⟨_,rfl,((r0.trans r1).trans (r2.trans r3)).cong ?_ ?_⟩
 ·simp [nodeB,headB,Bs]
 ·have hs:Fs ((if x.Sign=true then 1 else 0),1):=by show F1 _;split <;> exact ⟨by decide,by decide⟩
  unfold nodeOk headOk
  constructor
  ·rintro ⟨⟨a,b⟩,d,e⟩
   exact ⟨a,⟨b (x.Kind,1) (by simp),b (x.Name,2) (by simp),b (x.Place.Rule,2) (by simp),b (x.Place.Conj,1) (by simp),b (x.Place.Pos,1) (by simp),d (x.I,1) (by simp),d (x.J,1) (by simp),d (x.Rank,4) (by simp),d ((x.Picks.length:Int),2) (by simp)⟩,e⟩
  ·rintro ⟨a,⟨b1,b2,b3,b4,b5,b6,b7,b8,b9⟩,e⟩
   refine ⟨⟨a,fun p hp=>?_⟩,fun p hp=>?_,e⟩
   ·simp only [List.mem_cons,List.not_mem_nil,or_false] at hp
    rcases hp with rfl | rfl | rfl | rfl | rfl | rfl
    ·exact hs
    ·exact b1
    ·exact b2
    ·exact b3
    ·exact b4
    ·exact b5
   ·simp only [List.mem_cons,List.not_mem_nil,or_false] at hp
    rcases hp with rfl | rfl | rfl | rfl
    ·exact b6
    ·exact b7
    ·exact b8
    ·exact b9
def certB (c:Cert):List Int:=[84,67]++(B4 c.Root++(B4 (c.Nodes.length:Int)++nodesB c.Nodes))
def certOk (c:Cert):Prop:=F4 c.Root∧∀ x ∈ c.Nodes,nodeOk x
def certSm (c:Cert):Prop:=Small c.Root∧∀ x ∈ c.Nodes,nodeSm x
def PutIs (c:Cert) (r:ByteArray×Int):Prop :=
 (¬ certOk c∧r=(⟨#[]⟩,1800))∨(certOk c∧(65536<c.Nodes.length∨1048576<(certB c).length)∧r=(⟨#[]⟩,1801))∨(certOk c∧c.Nodes.length≤65536∧(certB c).length≤1048576∧r=(strL (certB c),0))
theorem PutIs.uniq {c:Cert} {r s:ByteArray×Int} (h1:PutIs c r) (h2:PutIs c s):r=s:=by
 rcases h1 with ⟨a,rfl⟩ | ⟨a,b,rfl⟩ | ⟨a,b,d,rfl⟩ <;> rcases h2 with ⟨a',rfl⟩ | ⟨a',b',rfl⟩ | ⟨a',b',d',rfl⟩ <;> first | rfl | exact absurd a' a | exact absurd a a' | (exfalso;omega)
structure PB (K:Nat) (c:Cert):Prop where
 n:c.Nodes.length<K∧c.Nodes.length≤9223372036854775000
 p:∀ x ∈ c.Nodes,x.Picks.length<K∧x.Picks.length≤9223372036854775000
 k:∀ x ∈ c.Nodes,∀ p ∈ x.Picks,p.Kids.length<K∧p.Kids.length≤9223372036854775000
 b:∀ x ∈ c.Nodes,(nodeB x).length≤140737486000000
theorem nodesB_take {xs:List Node} {i:Nat} (h:i<xs.length):nodesB (xs.take (i+1))=nodesB (xs.take i)++nodeB (rd xs (i:Int))∧xs.take (i+1)=xs.take i++[rd xs (i:Int)]:=by
 have e:xs.take (i+1)=xs.take i++[rd xs (i:Int)]:=by
  rw [List.take_add_one,rd_nat]
  simp [List.getD_eq_getElem?_getD,h]
 exact ⟨by rw [e];simp [nodesB],e⟩
theorem Put_l0 (K:Nat) (hK:20≤K) (c:Cert) (hsm:certSm c) (hb:PB K c) (hdr:List Int) (hh:hdr.length≤20) (ok0:Prop) (w:Pack_writer) (hg:w.bad=false→ok0∧w.out_=hdr) (hbad:w.bad=true→¬ ok0) (hw:w.out_.length≤20) (m:Nat) (hm:c.Nodes.length<m) :
  ∃ r,j6.l0 K c m (w.out_,w.bad,0)=some r∧(r.2.1=false→(ok0∧∀ x ∈ c.Nodes,nodeOk x)∧(((hdr++nodesB c.Nodes).length≤1048576∧r.1=hdr++nodesB c.Nodes)∨(1048576<(hdr++nodesB c.Nodes).length∧1048576<r.1.length)))∧(r.2.1=true→¬ (ok0∧∀ x ∈ c.Nodes,nodeOk x)):=by
 have:=rounds (L:=j6.l0 K c) (fun s=>∃ t:Nat,s.2.2=t∧t≤c.Nodes.length∧s.1.length≤1048577∧(s.2.1=false→(ok0∧∀ x ∈ c.Nodes.take t,nodeOk x)∧(((hdr++nodesB (c.Nodes.take t)).length≤1048576∧s.1=hdr++nodesB (c.Nodes.take t))∨(1048576<(hdr++nodesB (c.Nodes.take t)).length∧1048576<s.1.length)))∧(s.2.1=true→¬ (ok0∧∀ x ∈ c.Nodes.take t,nodeOk x)))
  (fun s=>c.Nodes.length-s.2.2.toNat) (fun r=>(r.2.1=false→(ok0∧∀ x ∈ c.Nodes,nodeOk x)∧(((hdr++nodesB c.Nodes).length≤1048576∧r.1=hdr++nodesB c.Nodes)∨(1048576<(hdr++nodesB c.Nodes).length∧1048576<r.1.length)))∧(r.2.1=true→¬ (ok0∧∀ x ∈ c.Nodes,nodeOk x))) (fun s m hI=>?_) m (w.out_,w.bad,0)
  ⟨0,rfl,by omega,by simp only;omega,fun h=>by
   obtain ⟨h1,h2⟩:=hg h
   refine ⟨⟨h1,by simp⟩,.inl ⟨by simp [nodesB];omega,by simp [nodesB,h2]⟩⟩,fun h h'=>hbad h h'.1⟩ (by simp only [Int.toNat_zero];omega)
 ·exact this
 obtain ⟨xs,b,t'⟩:=s
 obtain ⟨t,rfl,ht,hl,h1,h2⟩:=hI
 simp only at hl h1 h2
 simp only [j6.l0]
 have h64:=hb.n.2
 by_cases hlt:(t:Int)<c.Nodes.length
 ·have hlt':t<c.Nodes.length:=by omega
  have hmem:=rd_mem (Int.natCast_nonneg t) hlt
  obtain ⟨w',h3,h4⟩:=node_spec K hK (rd c.Nodes t) (hsm.2 _ hmem) (hb.p _ hmem).1 (hb.p _ hmem).2 (hb.k _ hmem) ⟨xs,b⟩ (by have:=hb.b _ hmem;simp only;omega)
  obtain ⟨e1,e2⟩:=nodesB_take hlt'
  have key:∀ ys:List Int,(w'.out_.length≤1048576→ys=w'.out_)→(1048576<w'.out_.length→ys=w'.out_.take 1048577)→ys.length≤1048577 ∧
    (w'.bad=false→(ok0∧∀ x ∈ c.Nodes.take (t+1),nodeOk x)∧(((hdr++nodesB (c.Nodes.take (t+1))).length≤1048576∧ys=hdr++nodesB (c.Nodes.take (t+1)))∨(1048576<(hdr++nodesB (c.Nodes.take (t+1))).length∧1048576<ys.length)))∧(w'.bad=true→¬ (ok0∧∀ x ∈ c.Nodes.take (t+1),nodeOk x)):=by
   intro ys y1 y2
   have hyl:ys.length=if w'.out_.length≤1048576 then w'.out_.length else 1048577:=by
    split
    ·rw [y1 ‹_›]
    ·rw [y2 (by omega),List.length_take];omega
   refine ⟨by rw [hyl];split <;> omega,fun hb'=>?_,fun hb'=>?_⟩
   ·have hbf:b=false:=by
     cases hbb:b with
     | false=>rfl
     | true=>have:=h4.bad (.inl hbb);rw [hb'] at this;cases this
    have hok:nodeOk (rd c.Nodes t):=Classical.byContradiction fun hn=>by have:=h4.bad (.inr hn);rw [hb'] at this;cases this
    have hw':=h4.good hbf hok
    obtain ⟨g1,g2⟩:=h1 hbf
    refine ⟨⟨g1.1,fun x hx=>?_⟩,?_⟩
    ·rw [e2,List.mem_append,List.mem_singleton] at hx
     rcases hx with hx | rfl
     ·exact g1.2 x hx
     ·exact hok
    ·rw [hw'] at y1 y2
     simp only at y1 y2
     rcases g2 with ⟨g3,g4⟩ | ⟨g3,g4⟩
     ·have e3:xs++nodeB (rd c.Nodes t)=hdr++nodesB (c.Nodes.take (t+1)):=by rw [g4,e1,List.append_assoc]
      rw [e3] at y1 y2
      by_cases hle:(hdr++nodesB (c.Nodes.take (t+1))).length≤1048576
      ·exact .inl ⟨hle,y1 hle⟩
      ·refine .inr ⟨by omega,?_⟩
       rw [y2 (by omega),List.length_take];omega
     ·refine .inr ⟨by rw [e1];simp only [List.length_append] at g3 ⊢;omega,?_⟩
      rw [y2 (by rw [List.length_append];omega),List.length_take,List.length_append];omega
   ·intro ⟨o,hall⟩
    have hok:nodeOk (rd c.Nodes t):=hall _ (by rw [e2];simp)
    cases hbb:b with
    | true=>exact h2 hbb ⟨o,fun x hx=>hall x (by rw [e2];simp [hx])⟩
    | false=>have:=h4.good hbb hok;rw [this] at hb';cases hb'
  rw [if_pos hlt,if_pos (Int.natCast_nonneg t),h3,Option.bind_some,wr (a:=(t:Int)+1) (by omega) (by omega)]
  by_cases hcut:(1048576:Int)<(w'.out_.length:Int)
  ·rw [if_pos hcut,if_pos (by omega)]
   obtain ⟨k1,k2,k3⟩:=key (w'.out_.take 1048577) (fun h=>by omega) fun _=>rfl
   exact .inr ⟨(w'.out_.take 1048577,w'.bad,(t:Int)+1),⟨t+1,by simp,by omega,k1,k2,k3⟩,by simp only;omega,rfl⟩
  ·rw [if_neg hcut]
   obtain ⟨k1,k2,k3⟩:=key w'.out_ (fun _=>rfl) fun h=>by omega
   exact .inr ⟨(w'.out_,w'.bad,(t:Int)+1),⟨t+1,by simp,by omega,k1,k2,k3⟩,by simp only;omega,rfl⟩
 ·have:t=c.Nodes.length:=by omega
  subst this
  rw [if_neg hlt]
  rw [List.take_length] at h1 h2
  exact .inl ⟨_,rfl,h1,h2⟩
theorem Put_spec (K:Nat) (hK:20≤K) (c:Cert) (hsm:certSm c) (hb:PB K c):∃ r,j6 K c=some r∧PutIs c r:=by
 have h64:=hb.n.2
 obtain ⟨mn,hmn,hm1,hm2⟩:∃ mn:Int,(if (65536:Int)<(c.Nodes.length:Int) then 65536 else (c.Nodes.length:Int))=mn∧F4 mn∧(c.Nodes.length≤65536→mn=(c.Nodes.length:Int)):=by
  split
  ·exact ⟨_,rfl,⟨by decide,by decide⟩,fun h=>by omega⟩
  ·exact ⟨_,rfl,⟨by omega,by omega⟩,fun _=>rfl⟩
 obtain ⟨w,h1,h2⟩:=nums_spec K (by omega) ⟨[84,67],false⟩ [(c.Root,4),(mn,4)] (by
  intro p hp
  simp only [List.mem_cons,List.not_mem_nil,or_false] at hp
  rcases hp with rfl | rfl
  ·exact ⟨.inr (.inr rfl),hsm.1⟩
  ·exact ⟨.inr (.inr rfl),by have:=hm1.2;simp only;omega⟩) (by simp;omega) (by simp) (by simp)
 have hall:(∀ p ∈ [(c.Root,(4:Int)),(mn,4)],Fs p)↔F4 c.Root:=by
  constructor
  ·intro h;exact h (c.Root,4) (by simp)
  ·intro h p hp
   simp only [List.mem_cons,List.not_mem_nil,or_false] at hp
   rcases hp with rfl | rfl
   ·exact h
   ·exact hm1
 have h2':=h2.cong rfl hall
 have hwl:=h2'.len
 simp [Bs,B4] at hwl
 obtain ⟨r,h3,h4,h5⟩:=Put_l0 K hK c hsm hb ([84,67]++(B4 c.Root++B4 mn)) (by simp [B4]) (F4 c.Root) w (fun hw=>by
   by_cases hf:F4 c.Root
   ·have:=h2'.good rfl hf
    exact ⟨hf,by rw [this];simp [Bs]⟩
   ·have:=h2'.bad (.inr hf);rw [hw] at this;cases this) (fun hw hf=>by
   have:=h2'.good rfl hf;rw [this] at hw;cases hw) (by omega) K hb.n.1
 unfold j6
 rw [hmn,h1,Option.bind_some,h3,Option.bind_some]
 obtain ⟨xs,b,t⟩:=r
 simp only at h4 h5 ⊢
 cases b with
 | true =>
  rw [if_pos rfl]
  exact ⟨_,rfl,.inl ⟨h5 rfl,rfl⟩⟩
 | false =>
  rw [if_neg (by decide)]
  obtain ⟨hok,hx⟩:=h4 rfl
  by_cases hn:(65536:Int)<(c.Nodes.length:Int)
  ·rw [if_pos hn]
   exact ⟨_,rfl,.inr (.inl ⟨hok,.inl (by omega),rfl⟩)⟩
  ·rw [if_neg hn]
   have hmn':=hm2 (by omega)
   have hcb:([84,67]++(B4 c.Root++B4 mn))++nodesB c.Nodes=certB c:=by rw [hmn'];simp [certB]
   rw [hcb] at hx
   rcases hx with ⟨x1,x2⟩ | ⟨x1,x2⟩
   ·rw [if_neg (by rw [x2];omega)]
    exact ⟨_,rfl,.inr (.inr ⟨hok,by omega,x1,by rw [x2]⟩)⟩
   ·rw [if_pos (by omega)]
    exact ⟨_,rfl,.inr (.inl ⟨hok,.inr x1,rfl⟩)⟩
def Byt (xs:List Int):Prop:=∀ v ∈ xs,0≤v∧v<256
theorem strL_app (a b:List Int):strL a++strL b=strL (a++b):=by
 apply ByteArray.ext
 simp [strL]
theorem strL_size (a:List Int):(strL a).size=a.length:=by simp [strL,ByteArray.size]
theorem byt_back {xs:List Int} (h:Byt xs):bytesL (strL xs)=xs:=by
 unfold bytesL strL
 simp only [List.map_map]
 conv=>rhs;rw [← List.map_id xs]
 apply List.map_congr_left
 intro v hv
 obtain ⟨h0,h1⟩:=h v hv
 simp only [Function.comp,id]
 have:(UInt8.ofNat v.toNat).toNat=v.toNat % 256:=by simp
 rw [this]
 omega
theorem bytesL_byt (s:ByteArray):Byt (bytesL s):=by
 intro v hv
 obtain ⟨b,_,rfl⟩:=List.mem_map.1 hv
 have:=b.toNat_lt
 omega
theorem strL_bytesL (s:ByteArray):strL (bytesL s)=s:=by
 apply ByteArray.ext
 unfold strL bytesL
 simp only [List.map_map]
 apply Array.ext'
 simp only [List.toList_toArray]
 conv=>rhs;rw [← List.map_id s.data.toList]
 apply List.map_congr_left
 intro b _
 simp
theorem Byt.app {a b:List Int} (ha:Byt a) (hb:Byt b):Byt (a++b):=fun v hv=>(List.mem_append.1 hv).elim (ha v) (hb v)
theorem byt_app {a b:List Int}:Byt (a++b)↔Byt a∧Byt b:=⟨fun h=>⟨fun v hv=>h v (List.mem_append_left _ hv),fun v hv=>h v (List.mem_append_right _ hv)⟩,fun h=>h.1.app h.2⟩
theorem byt1 {x:Int} (h:F1 x):Byt (B1 x):=by intro v hv;simp [B1] at hv;subst hv;exact h
theorem byt2 {x:Int} (h:F2 x):Byt (B2 x):=by
 obtain ⟨h0,h1⟩:=h
 intro v hv;simp [B2] at hv;rcases hv with rfl | rfl <;> omega
theorem byt4 {x:Int} (h:F4 x):Byt (B4 x):=by
 obtain ⟨h0,h1⟩:=h
 intro v hv;simp [B4] at hv;rcases hv with rfl | rfl | rfl | rfl <;> omega
theorem be_step (K m:Nat) (xs:List Int) (x:Int) (i:Nat) (hi:i<xs.length) (h4:i≤4):P1.l0 K (m+1) (xs,x,(i:Int))=P1.l0 K m (xs.set i (x % 256),x / 256,(i:Int)-1):=by
 simp only [P1.l0]
 rw [if_pos (Int.natCast_nonneg i),if_pos (by omega),and255,w8,wr (a:=(i:Int)-1) (by omega) (by omega)]
 have h8:=ishr_i64 x 8 (by omega)
 rw [show ((8:Nat):Int)=8 from rfl] at h8
 rw [h8,fd _ _ (by decide),Int.emod_emod]
 rfl
theorem be_end (K m:Nat) (xs:List Int) (x:Int):P1.l0 K (m+1) (xs,x,-1)=some (xs,x,-1):=by simp only [P1.l0];rfl
theorem be1 (K:Nat) (hK:6≤K) (x:Int) (h:F1 x):P1 K x 1=some (strL (B1 x)):=by
 obtain ⟨m,rfl⟩:∃ m,K=m+6:=⟨K-6,by omega⟩
 unfold P1
 rw [if_pos (by decide),if_pos (by decide),wr (a:=(1:Int)-1) (by decide) (by decide)]
 rw [show ((1:Int)-1)=((0:Nat):Int) from rfl,be_step _ _ _ _ 0 (by simp) (by omega),show ((0:Nat):Int)-1 = -1 from rfl,be_end]
 obtain ⟨h0,h1⟩:=h
 have:x % 256=x:=by omega
 simp [B1,this,List.replicate]
theorem be2 (K:Nat) (hK:6≤K) (x:Int) (h:F2 x):P1 K x 2=some (strL (B2 x)):=by
 obtain ⟨m,rfl⟩:∃ m,K=m+6:=⟨K-6,by omega⟩
 unfold P1
 rw [if_pos (by decide),if_pos (by decide),wr (a:=(2:Int)-1) (by decide) (by decide)]
 rw [show ((2:Int)-1)=((1:Nat):Int) from rfl,be_step _ _ _ _ 1 (by simp) (by omega),show ((1:Nat):Int)-1=((0:Nat):Int) from rfl,be_step _ _ _ _ 0 (by simp) (by omega),show ((0:Nat):Int)-1 = -1 from rfl,be_end]
 obtain ⟨h0,h1⟩:=h
 have:x / 256 % 256=x / 256:=by omega
 simp [B2,this,List.replicate]
theorem be4 (K:Nat) (hK:6≤K) (x:Int) (h:F4 x):P1 K x 4=some (strL (B4 x)):=by
 obtain ⟨m,rfl⟩:∃ m,K=m+6:=⟨K-6,by omega⟩
 unfold P1
 rw [if_pos (by decide),if_pos (by decide),wr (a:=(4:Int)-1) (by decide) (by decide)]
 rw [show ((4:Int)-1)=((3:Nat):Int) from rfl,be_step _ _ _ _ 3 (by simp) (by omega),show ((3:Nat):Int)-1=((2:Nat):Int) from rfl,be_step _ _ _ _ 2 (by simp) (by omega),show ((2:Nat):Int)-1=((1:Nat):Int) from rfl,be_step _ _ _ _ 1 (by simp) (by omega),show ((1:Nat):Int)-1=((0:Nat):Int) from rfl,be_step _ _ _ _ 0 (by simp) (by omega),show ((0:Nat):Int)-1 = -1 from rfl,be_end]
 obtain ⟨h0,h1⟩:=h
 have e1:x / 256 / 256 % 256=x / 65536 % 256:=by omega
 have e2:x / 256 / 256 / 256 % 256=x / 16777216:=by omega
 simp [B4,e1,e2,List.replicate]
theorem fit1 (K:Nat) (x:Int):L3 K x 1=some (decide (F1 x)):=by
 unfold L3 F1
 by_cases h:0≤x
 ·rw [if_pos h,if_pos (by decide)]
  have:ishl .i64 1 (IntKind.wrap .i64 (8*1))=256:=by decide +kernel
  rw [this];simp [h]
 ·rw [if_neg h];simp [h]
theorem fit2 (K:Nat) (x:Int):L3 K x 2=some (decide (F2 x)):=by
 unfold L3 F2
 by_cases h:0≤x
 ·rw [if_pos h,if_pos (by decide)]
  have:ishl .i64 1 (IntKind.wrap .i64 (8*2))=65536:=by decide +kernel
  rw [this];simp [h]
 ·rw [if_neg h];simp [h]
theorem fit4 (K:Nat) (x:Int):L3 K x 4=some (decide (F4 x)):=by
 unfold L3 F4
 by_cases h:0≤x
 ·rw [if_pos h,if_pos (by decide)]
  have:ishl .i64 1 (IntKind.wrap .i64 (8*4))=4294967296:=by decide +kernel
  rw [this];simp [h]
 ·rw [if_neg h];simp [h]
theorem all_loop {ρ:Type} (n:Nat) (L:Nat→Int→Option (Int ⊕ ρ)) (no:ρ) (Q:Nat→Prop) (hL:∀ m (i:Nat),i<n→∃ b:Bool,(b=true↔Q i)∧L (m+1) i=if b=true then L m ((i:Int)+1) else some (.inr no)) (hend:∀ m,L (m+1) n=some (.inl (n:Int))) (m:Nat) (hm:n<m) :
  ∃ r,L m 0=some r∧((∀ i,i<n→Q i)→r = .inl (n:Int))∧(¬ (∀ i,i<n→Q i)→r = .inr no):=by
 have:=rounds (L:=L) (fun s=>∃ i:Nat,s=i∧i≤n∧∀ j,j<i→Q j) (fun s=>n-s.toNat) (fun r=>((∀ i,i<n→Q i)→r = .inl (n:Int))∧(¬ (∀ i,i<n→Q i)→r = .inr no)) (fun s m hI=>?_) m 0 ⟨0,rfl,by omega,by omega⟩ (by simp only [Int.toNat_zero];omega)
 ·exact this
 obtain ⟨i,rfl,hi,hq⟩:=hI
 rcases Nat.lt_or_ge i n with h | h
 ·obtain ⟨b,hb,he⟩:=hL m i h
  rw [he]
  by_cases hbt:b=true
  ·rw [if_pos hbt]
   refine .inr ⟨(i:Int)+1,⟨i+1,by simp,h,fun j hj=>?_⟩,by omega,rfl⟩
   rcases Nat.lt_or_ge j i with h' | h'
   ·exact hq j h'
   ·have:j=i:=by omega
    subst this;exact hb.1 hbt
  ·rw [if_neg hbt]
   exact .inl ⟨_,rfl,fun h'=>absurd (hb.2 (h' i h)) hbt,fun _=>rfl⟩
 ·have:i=n:=by omega
  subst this
  rw [hend]
  exact .inl ⟨_,rfl,fun _=>rfl,fun h'=>absurd hq h'⟩
theorem all_mem {T:Type} [Inhabited T] {xs:List T} {Q:T→Prop}:(∀ i:Nat,i<xs.length→Q (rd xs (i:Int)))↔∀ x ∈ xs,Q x:=by
 constructor
 ·intro h x hx
  obtain ⟨i,hi⟩:=List.getElem?_of_mem hx
  have hl:i<xs.length:=by
   rcases Nat.lt_or_ge i xs.length with h | h
   ·exact h
   ·simp [h] at hi
  have:=h i hl
  rw [rd_nat,List.getD_eq_getElem?_getD,hi] at this
  exact this
 ·intro h i hi
  exact h _ (rd_mem (Int.natCast_nonneg i) (by omega))
theorem pickMay_spec (K:Nat) (p:Pick) (hk:p.Kids.length<K) (hl:p.Kids.length≤9223372036854775000):∃ b,G4 K p=some b∧(b=true↔pickOk p):=by
 obtain ⟨r,h1,h2,h3⟩:=all_loop p.Kids.length (G4.l0 K p) false (fun i=>F4 (rd p.Kids (i:Int))) (fun m i hi=>by
  refine ⟨decide (F4 (rd p.Kids (i:Int))),by simp,?_⟩
  simp only [G4.l0]
  rw [if_pos (by omega),if_pos (Int.natCast_nonneg i),fit4,Option.bind_some,wr (a:=(i:Int)+1) (by omega) (by omega)]
  by_cases h:F4 (rd p.Kids (i:Int)) <;> simp [h]) (fun m=>by simp only [G4.l0];rw [if_neg (by omega)]) K hk
 rw [all_mem (Q:=F4)] at h2 h3
 unfold G4
 rw [h1]
 by_cases hall:∀ k ∈ p.Kids,F4 k
 ·rw [h2 hall]
  simp only [brk,Option.bind_some,fit1,fit2]
  unfold pickOk
  by_cases a1:F2 p.At
  ·rw [decide_eq_true a1,if_pos rfl]
   by_cases a2:F1 p.Conj
   ·rw [decide_eq_true a2,if_pos rfl]
    exact ⟨_,rfl,by simp only [decide_eq_true_eq,F1];constructor;exact fun h=>⟨a1,a2,⟨by omega,by omega⟩,hall⟩;exact fun h=>by have:=h.2.2.1.2;omega⟩
   ·rw [decide_eq_false a2]
    exact ⟨false,rfl,by simp [a2]⟩
  ·rw [decide_eq_false a1]
   exact ⟨false,rfl,by simp [a1]⟩
 ·rw [h3 hall]
  refine ⟨false,rfl,by simp;exact fun h=>hall h.2.2.2⟩
theorem nodeMay_spec (K:Nat) (x:Node) (hp:x.Picks.length<K) (hl:x.Picks.length≤9223372036854775000) (hk:∀ p ∈ x.Picks,p.Kids.length<K∧p.Kids.length≤9223372036854775000):∃ b,V2 K x=some b∧(b=true↔nodeOk x):=by
 unfold V2
 have hpre:∃ r:Unit ⊕ Bool,(if x.Kind≠0 then if x.Kind≠1 then some (.inr false) else if x.Kind=0 then if x.Place≠(⟨(0:Int),(0:Int),(0:Int)⟩:Place) then some (.inr false) else if x.Kind=1 then if x.Name≠0 then some (.inr false) else some (.inl ()) else some (.inl ()) else if x.Kind=1 then if x.Name≠0 then some (.inr false) else some (.inl ()) else some (.inl ()) else if x.Kind=0 then if x.Place≠(⟨(0:Int),(0:Int),(0:Int)⟩:Place) then some (.inr false) else if x.Kind=1 then if x.Name≠0 then some (.inr false) else some (.inl ()) else some (.inl ()) else if x.Kind=1 then if x.Name≠0 then some (.inr false) else some (.inl ()) else some (.inl ()):Option (Unit ⊕ Bool))=some r∧((shapeOk x∧r = .inl ())∨(¬ shapeOk x∧r = .inr false)):=by
  unfold shapeOk
  by_cases k0:x.Kind=0
  ·have k1:x.Kind≠1:=by omega
   by_cases pl:x.Place=⟨0,0,0⟩
   ·exact ⟨_,by simp only [k0,pl,ne_eq,not_true_eq_false,if_false,if_true];rfl,.inl ⟨.inl ⟨k0,pl⟩,rfl⟩⟩
   ·exact ⟨_,by simp only [k0,pl,ne_eq,not_true_eq_false,not_false_eq_true,if_false,if_true],.inr ⟨by simp [k0,pl],rfl⟩⟩
  ·by_cases k1:x.Kind=1
   ·by_cases nm:x.Name=0
    ·exact ⟨_,by simp only [k1,nm,ne_eq,not_true_eq_false,if_false,if_true];rfl,.inl ⟨.inr ⟨k1,nm⟩,rfl⟩⟩
    ·exact ⟨_,by simp only [k1,nm,ne_eq,not_true_eq_false,not_false_eq_true,if_false,if_true];rfl,.inr ⟨by simp [k1,nm],rfl⟩⟩
   ·exact ⟨_,by simp only [k0,k1,ne_eq,not_true_eq_false,not_false_eq_true,if_false,if_true],.inr ⟨by simp [k0,k1],rfl⟩⟩
 obtain ⟨r0,h0,hr0⟩:=hpre
 rw [h0]
 rcases hr0 with ⟨hs,rfl⟩ | ⟨hs,rfl⟩
 case inr=>exact ⟨false,rfl,by simp;exact fun h=>hs h.1⟩
 simp only [brk,Option.bind_some]
 by_cases hlen:(x.Picks.length:Int)≤65535
 ·obtain ⟨r,h1,h2,h3⟩:=all_loop x.Picks.length (V2.l0 K x) false (fun i=>pickOk (rd x.Picks (i:Int))) (fun m i hi=>by
   have hmem:rd x.Picks (i:Int) ∈ x.Picks:=rd_mem (Int.natCast_nonneg i) (by omega)
   obtain ⟨b,b1,b2⟩:=pickMay_spec K (rd x.Picks (i:Int)) (hk _ hmem).1 (hk _ hmem).2
   refine ⟨b,b2,?_⟩
   simp only [V2.l0]
   rw [if_pos (by omega),if_pos hlen,if_pos (Int.natCast_nonneg i),b1,Option.bind_some,wr (a:=(i:Int)+1) (by omega) (by omega)]
   cases b <;> simp) (fun m=>by simp only [V2.l0];rw [if_neg (by omega)]) K hp
  rw [all_mem (Q:=pickOk)] at h2 h3
  rw [h1]
  by_cases hall:∀ p ∈ x.Picks,pickOk p
  ·rw [h2 hall]
   simp only [Option.bind_some,fit1,fit2,fit4]
   have hF:F2 (x.Picks.length:Int):=⟨by omega,by omega⟩
   have key:nodeOk x↔F2 x.Name∧F2 x.Place.Rule∧F1 x.Place.Conj∧F1 x.Place.Pos∧F1 x.I∧F1 x.J∧F4 x.Rank:=by
    unfold nodeOk headOk
    constructor
    ·rintro ⟨_,⟨b1,b2,b3,b4,b5,b6,b7,b8,b9⟩,_⟩
     exact ⟨b2,b3,b4,b5,b6,b7,b8⟩
    ·rintro ⟨b2,b3,b4,b5,b6,b7,b8⟩
     have b1:F1 x.Kind:=by rcases hs with ⟨h,_⟩ | ⟨h,_⟩ <;> (rw [h];exact ⟨by decide,by decide⟩)
     exact ⟨hs,⟨b1,b2,b3,b4,b5,b6,b7,b8,hF⟩,hall⟩
   rw [key]
   by_cases b2:F2 x.Name
   case neg=>exact ⟨false,by simp [b2],by simp [b2]⟩
   by_cases b3:F2 x.Place.Rule
   case neg=>exact ⟨false,by simp [b2,b3],by simp [b3]⟩
   by_cases b4:F1 x.Place.Conj
   case neg=>exact ⟨false,by simp [b2,b3,b4],by simp [b4]⟩
   by_cases b5:F1 x.Place.Pos
   case neg=>exact ⟨false,by simp [b2,b3,b4,b5],by simp [b5]⟩
   by_cases b6:F1 x.I
   case neg=>exact ⟨false,by simp [b2,b3,b4,b5,b6],by simp [b6]⟩
   by_cases b7:F1 x.J
   case neg=>exact ⟨false,by simp [b2,b3,b4,b5,b6,b7],by simp [b7]⟩
   by_cases b8:F4 x.Rank
   case neg=>exact ⟨false,by simp [b2,b3,b4,b5,b6,b7,b8],by simp [b8]⟩
   exact ⟨true,by simp [b2,b3,b4,b5,b6,b7,b8];omega,by simp [b2,b3,b4,b5,b6,b7,b8]⟩
  ·rw [h3 hall]
   exact ⟨false,rfl,by simp;exact fun h=>hall h.2.2⟩
 ·
  have h1:V2.l0 K x K 0=some (.inl 0):=by
   obtain ⟨m,rfl⟩:∃ m,K=m+1:=⟨K-1,by omega⟩
   simp only [V2.l0]
   rw [if_pos (by omega),if_neg hlen]
  rw [h1]
  simp only [Option.bind_some,fit1,fit2,fit4]
  have hn:¬ nodeOk x:=fun h=>by have:=h.2.1.2.2.2.2.2.2.2.2.2;omega
  have hd:decide ((x.Picks.length:Int)≤65535)=false:=decide_eq_false hlen
  refine ⟨false,?_,by simp [hn]⟩
  rw [hd]
  repeat' split
  all_goals rfl
structure PR (K:Nat) (c:Cert):Prop where
 n:c.Nodes.length<K∧c.Nodes.length≤140737488355328
 p:∀ x ∈ c.Nodes,x.Picks.length<K∧x.Picks.length≤140737488355328
 k:∀ x ∈ c.Nodes,∀ p ∈ x.Picks,p.Kids.length<K∧p.Kids.length≤140737488355328
theorem certB_len (c:Cert):(certB c).length=10+(nodesB c.Nodes).length:=by simp [certB,B4];omega
theorem nodesB_mono (xs:List Node) (i:Nat):(nodesB (xs.take i)).length≤(nodesB xs).length:=by
 have:nodesB xs=nodesB (xs.take i)++nodesB (xs.drop i):=by
  unfold nodesB
  rw [← List.flatten_append,← List.map_append,List.take_append_drop]
 rw [this,List.length_append];omega
theorem nodeB_len (x:Node):(nodeB x).length=16+(picksB x.Picks).length:=by rw [nodeB,List.length_append,headB_len]
theorem size_l1 (K:Nat) (c:Cert) (i:Nat) (ps:List Pick) (hps:(rd c.Nodes (i:Int)).Picks=ps) (hl:ps.length≤140737488355328) (hk:∀ p ∈ ps,p.Kids.length≤140737488355328) (k0:Nat) (h0:k0≤1048592) (m:Nat) (hm:ps.length<m) :
  ∃ r,P3.l1 K c i m ((k0:Int),0)=some r∧∃ k:Nat,r.1=k∧k≤562949954470000∧(k=k0+(picksB ps).length∨(1048576<k∧k≤k0+(picksB ps).length)):=by
 refine rounds (L:=P3.l1 K c i) (fun s=>∃ j k:Nat,s.1=k∧s.2=j∧j≤ps.length∧k≤562949954470000∧k=k0+(picksB (ps.take j)).length) (fun s=>ps.length-s.2.toNat) _ (fun s m hI=>?_) m ((k0:Int),0) ⟨0,k0,rfl,rfl,by omega,by omega,by simp [picksB]⟩ (by simp only [Int.toNat_zero];omega)
 obtain ⟨k',j'⟩:=s
 obtain ⟨j,k,rfl,rfl,hj,hkb,hk'⟩:=hI
 have hmono:=picksB_mono ps j
 simp only [P3.l1,hps]
 rw [if_pos (Int.natCast_nonneg i)]
 by_cases hlt:(j:Int)<ps.length
 ·have hlt':j<ps.length:=by omega
  rw [if_pos hlt]
  by_cases hle:(k:Int)≤1048576
  ·have hkk:=hk _ (rd_mem (Int.natCast_nonneg j) hlt)
   have ht:=picksB_take hlt'
   have e:IntKind.wrap .i64 ((IntKind.wrap .i64 ((k:Int)+4))+(IntKind.wrap .i64 (4*((rd ps (j:Int)).Kids.length:Int))))=((k+(4+4*(rd ps (j:Int)).Kids.length):Nat):Int):=by
    rw [wr (a:=(k:Int)+4) (by omega) (by omega),wr (a:=4*((rd ps (j:Int)).Kids.length:Int)) (by omega) (by omega),wr (by omega) (by omega)];omega
   rw [if_pos hle,if_pos (Int.natCast_nonneg j),e,wr (a:=(j:Int)+1) (by omega) (by omega)]
   exact .inr ⟨(((k+(4+4*(rd ps (j:Int)).Kids.length):Nat):Int),(j:Int)+1),⟨j+1,k+(4+4*(rd ps (j:Int)).Kids.length),rfl,by simp,by omega,by omega,by rw [ht,List.length_append,pickB_len];omega⟩,by simp only;omega,rfl⟩
  ·rw [if_neg hle]
   exact .inl ⟨_,rfl,k,rfl,hkb,.inr ⟨by omega,by omega⟩⟩
 ·have:j=ps.length:=by omega
  subst this
  rw [if_neg hlt]
  rw [List.take_length] at hk'
  exact .inl ⟨_,rfl,k,rfl,hkb,.inl hk'⟩
theorem size_spec (K:Nat) (c:Cert) (hb:PR K c):∃ k:Nat,P3 K c=some (k:Int)∧(1048576<k↔1048576<(certB c).length):=by
 have h64:=hb.n.2
 have:=rounds (L:=P3.l0 K c) (fun s=>∃ i k:Nat,s.1=k∧s.2=i∧i≤c.Nodes.length∧(k=10+(nodesB (c.Nodes.take i)).length∨(1048576<k∧k≤10+(nodesB (c.Nodes.take i)).length))) (fun s=>c.Nodes.length-s.2.toNat) (fun r=>∃ k:Nat,r.1=k∧(1048576<k↔1048576<(certB c).length)) (fun s m hI=>?_) K ((10:Int),0) ⟨0,10,rfl,rfl,by omega,.inl (by simp [nodesB])⟩ (by simp only [Int.toNat_zero];have:=hb.n.1;omega)
 ·obtain ⟨⟨k',i⟩,h1,k,rfl,h2⟩:=this
  exact ⟨k,by unfold P3;rw [h1];rfl,h2⟩
 obtain ⟨k',i'⟩:=s
 obtain ⟨i,k,rfl,rfl,hi,hk⟩:=hI
 have hmono:=nodesB_mono c.Nodes i
 simp only [P3.l0]
 have hc:=certB_len c
 by_cases hlt:(i:Int)<c.Nodes.length
 ·have hlt':i<c.Nodes.length:=by omega
  rw [if_pos hlt]
  by_cases hle:(k:Int)≤1048576
  ·have hmem:=rd_mem (Int.natCast_nonneg i) hlt
   have hke:k=10+(nodesB (c.Nodes.take i)).length:=by omega
   obtain ⟨r,h1,k2,h2,h3,h4⟩:=size_l1 K c i _ rfl (hb.p _ hmem).2 (fun p hp=>(hb.k _ hmem p hp).2) (k+16) (by omega) K (hb.p _ hmem).1
   have e:IntKind.wrap .i64 ((k:Int)+16)=((k+16:Nat):Int):=by rw [wr (by omega) (by omega)];simp
   rw [if_pos hle,e,h1,Option.bind_some,wr (a:=(i:Int)+1) (by omega) (by omega)]
   obtain ⟨t1,_⟩:=nodesB_take hlt'
   refine .inr ⟨(r.1,(i:Int)+1),⟨i+1,k2,h2,by simp,by omega,?_⟩,by simp only;omega,rfl⟩
   rw [t1,List.length_append,nodeB_len]
   omega
  ·rw [if_neg hle]
   exact .inl ⟨_,rfl,k,rfl,by omega⟩
 ·have:i=c.Nodes.length:=by omega
  subst this
  rw [if_neg hlt]
  rw [List.take_length] at hk
  exact .inl ⟨_,rfl,k,rfl,by omega⟩
theorem byt_kids {ks:List Int} (h:∀ k ∈ ks,F4 k):Byt (kidsB ks):=by
 intro v hv
 obtain ⟨l,hl,hv⟩:=List.mem_flatten.1 hv
 obtain ⟨k,hk,rfl⟩:=List.mem_map.1 hl
 exact byt4 (h k hk) v hv
theorem byt_pick {p:Pick} (h:pickOk p):Byt (pickB p):=(byt2 h.1).app ((byt1 h.2.1).app ((byt1 h.2.2.1).app (byt_kids h.2.2.2)))
theorem byt_picks {ps:List Pick} (h:∀ p ∈ ps,pickOk p):Byt (picksB ps):=by
 intro v hv
 obtain ⟨l,hl,hv⟩:=List.mem_flatten.1 hv
 obtain ⟨p,hp,rfl⟩:=List.mem_map.1 hl
 exact byt_pick (h p hp) v hv
theorem bit_F (b:Bool):F1 (if b=true then 1 else 0):=by split <;> exact ⟨by decide,by decide⟩
theorem byt_head {x:Node} (h:headOk x):Byt (headB x):=by
 obtain ⟨b1,b2,b3,b4,b5,b6,b7,b8,b9⟩:=h
 exact (byt1 (bit_F _)).app ((byt1 b1).app ((byt2 b2).app ((byt2 b3).app ((byt1 b4).app ((byt1 b5).app ((byt1 b6).app ((byt1 b7).app ((byt4 b8).app (byt2 b9)))))))))
theorem byt_node {x:Node} (h:nodeOk x):Byt (nodeB x):=(byt_head h.2.1).app (byt_picks h.2.2)
theorem byt_nodes {xs:List Node} (h:∀ x ∈ xs,nodeOk x):Byt (nodesB xs):=by
 intro v hv
 obtain ⟨l,hl,hv⟩:=List.mem_flatten.1 hv
 obtain ⟨p,hp,rfl⟩:=List.mem_map.1 hl
 exact byt_node (h p hp) v hv
theorem RPut_l3 (K:Nat) (hK:6≤K) (c:Cert) (i j:Int) (ks:List Int) (hks:(rd ((rd c.Nodes i).Picks) j).Kids=ks) (hf:∀ k ∈ ks,F4 k) (xs0:List Int) (hl:xs0.length+(kidsB ks).length≤1048576) (m:Nat) (hm:ks.length<m) :
  ∃ t,Q1.l3 K c i j m (xs0,0)=some (xs0++kidsB ks,t):=by
 have:=rounds (L:=Q1.l3 K c i j) (fun s=>∃ k:Nat,s.2=k∧k≤ks.length∧s.1=xs0++kidsB (ks.take k)) (fun s=>ks.length-s.2.toNat) (fun r=>r.1=xs0++kidsB ks) (fun s m hI=>?_) m (xs0,0) ⟨0,rfl,by omega,by simp [kidsB]⟩ (by simp only [Int.toNat_zero];omega)
 ·obtain ⟨⟨xs,t⟩,h1,h2⟩:=this
  exact ⟨t,by rw [h1];simp only at h2;rw [h2]⟩
 obtain ⟨xs,k'⟩:=s
 obtain ⟨k,rfl,hk,hx⟩:=hI
 simp only at hx
 rw [kidsB_len] at hl
 simp only [Q1.l3,hks]
 by_cases hlt:(k:Int)<ks.length
 ·have hlt':k<ks.length:=by omega
  have hF:=hf _ (rd_mem (Int.natCast_nonneg k) hlt)
  have hxl:xs.length=xs0.length+4*k:=by rw [hx,List.length_append,kidsB_len,List.length_take];omega
  have e:ks.take (k+1)=ks.take k++[rd ks (k:Int)]:=by
   rw [List.take_add_one,rd_nat]
   simp [List.getD_eq_getElem?_getD,hlt']
  rw [if_pos hlt,if_pos (Int.natCast_nonneg k),be4 K hK _ hF,Option.bind_some,if_pos (by rw [strL_size];simp only [B4,List.length_cons,List.length_nil];omega),byt_back (byt4 hF),wr (a:=(k:Int)+1) (by omega) (by omega)]
  exact .inr ⟨(xs++B4 (rd ks (k:Int)),(k:Int)+1),⟨k+1,by simp,by omega,by simp only;rw [hx,e];simp [kidsB]⟩,by simp only;omega,rfl⟩
 ·have:k=ks.length:=by omega
  subst this
  rw [if_neg hlt]
  exact .inl ⟨_,rfl,by simpa using hx⟩
theorem RPut_l2 (K:Nat) (hK:6≤K) (c:Cert) (i:Int) (ps:List Pick) (hps:(rd c.Nodes i).Picks=ps) (hf:∀ p ∈ ps,pickOk p) (hk:∀ p ∈ ps,p.Kids.length<K) (xs0:List Int) (hl:xs0.length+(picksB ps).length≤1048576) (m:Nat) (hm:ps.length<m) (hp64:ps.length≤140737488355328) :
  ∃ t,Q1.l2 K c i m (xs0,0)=some (xs0++picksB ps,t):=by
 have:=rounds (L:=Q1.l2 K c i) (fun s=>∃ k:Nat,s.2=k∧k≤ps.length∧s.1=xs0++picksB (ps.take k)) (fun s=>ps.length-s.2.toNat) (fun r=>r.1=xs0++picksB ps) (fun s m hI=>?_) m (xs0,0) ⟨0,rfl,by omega,by simp [picksB]⟩ (by simp only [Int.toNat_zero];omega)
 ·obtain ⟨⟨xs,t⟩,h1,h2⟩:=this
  exact ⟨t,by rw [h1];simp only at h2;rw [h2]⟩
 obtain ⟨xs,k'⟩:=s
 obtain ⟨k,rfl,hkk,hx⟩:=hI
 simp only at hx
 simp only [Q1.l2,hps]
 by_cases hlt:(k:Int)<ps.length
 ·have hlt':k<ps.length:=by omega
  have hmem:=rd_mem (Int.natCast_nonneg k) hlt
  obtain ⟨f1,f2,f3,f4⟩:=hf _ hmem
  have ht:=picksB_take hlt'
  have hmono:=picksB_mono ps (k+1)
  rw [ht,List.length_append,pickB_len] at hmono
  have hxl:xs.length=xs0.length+(picksB (ps.take k)).length:=by rw [hx,List.length_append]
  have hby:Byt (B2 (rd ps (k:Int)).At++B1 (rd ps (k:Int)).Conj++B1 ((rd ps (k:Int)).Kids.length:Int)):=((byt2 f1).app (byt1 f2)).app (byt1 f3)
  have s1:(B2 (rd ps (k:Int)).At).length=2:=rfl
  have s2:(B1 (rd ps (k:Int)).Conj).length=1:=rfl
  have s3:(B1 ((rd ps (k:Int)).Kids.length:Int)).length=1:=rfl
  obtain ⟨t,h3⟩:=RPut_l3 K hK c i k (rd ps (k:Int)).Kids (by rw [hps]) f4 (xs++(B2 (rd ps (k:Int)).At++B1 (rd ps (k:Int)).Conj++B1 ((rd ps (k:Int)).Kids.length:Int))) (by rw [kidsB_len];simp only [List.length_append,s1,s2,s3];omega) K (hk _ hmem)
  rw [if_pos hlt,if_pos (Int.natCast_nonneg k),be2 K hK _ f1,Option.bind_some,be1 K hK _ f2,Option.bind_some,if_pos (by simp only [strL_size,s1,s2];omega),be1 K hK _ f3,Option.bind_some,strL_app,if_pos (by simp only [strL_size,List.length_append,s1,s2,s3];omega),strL_app,if_pos (by simp only [strL_size,List.length_append,s1,s2,s3];omega),byt_back hby,h3,Option.bind_some,wr (a:=(k:Int)+1) (by omega) (by omega)]
  refine .inr ⟨(_,(k:Int)+1),⟨k+1,by simp,by omega,?_⟩,by simp only;omega,rfl⟩
  simp only
  rw [hx,ht]
  simp [pickB]
 ·have:k=ps.length:=by omega
  subst this
  rw [if_neg hlt]
  exact .inl ⟨_,rfl,by simpa using hx⟩
theorem RPut_l1 (K:Nat) (hK:6≤K) (c:Cert) (hb:PR K c) (hf:∀ x ∈ c.Nodes,nodeOk x) (xs0:List Int) (hl:xs0.length+(nodesB c.Nodes).length≤1048576) (m:Nat) (hm:c.Nodes.length<m) :
  ∃ t,Q1.l1 K c m (xs0,0)=some (xs0++nodesB c.Nodes,t):=by
 have h64:=hb.n.2
 have:=rounds (L:=Q1.l1 K c) (fun s=>∃ k:Nat,s.2=k∧k≤c.Nodes.length∧s.1=xs0++nodesB (c.Nodes.take k)) (fun s=>c.Nodes.length-s.2.toNat) (fun r=>r.1=xs0++nodesB c.Nodes) (fun s m hI=>?_) m (xs0,0) ⟨0,rfl,by omega,by simp [nodesB]⟩ (by simp only [Int.toNat_zero];omega)
 ·obtain ⟨⟨xs,t⟩,h1,h2⟩:=this
  exact ⟨t,by rw [h1];simp only at h2;rw [h2]⟩
 obtain ⟨xs,k'⟩:=s
 obtain ⟨k,rfl,hkk,hx⟩:=hI
 simp only at hx
 simp only [Q1.l1]
 by_cases hlt:(k:Int)<c.Nodes.length
 ·have hlt':k<c.Nodes.length:=by omega
  have hmem:=rd_mem (Int.natCast_nonneg k) hlt
  obtain ⟨f0,hh,fp⟩:=hf _ hmem
  obtain ⟨b1,b2,b3,b4,b5,b6,b7,b8,b9⟩:=hh
  obtain ⟨ht,_⟩:=nodesB_take hlt'
  have hmono:=nodesB_mono c.Nodes (k+1)
  rw [ht,List.length_append,nodeB_len] at hmono
  have hxl:xs.length=xs0.length+(nodesB (c.Nodes.take k)).length:=by rw [hx,List.length_append]
  have hbit:V7 K (rd c.Nodes (k:Int)).Sign=some (if (rd c.Nodes (k:Int)).Sign=true then 1 else 0):=by unfold V7;split <;> rfl
  have L1:∀ x:Int,(B1 x).length=1:=fun _=>rfl
  have L2:∀ x:Int,(B2 x).length=2:=fun _=>rfl
  have L4:∀ x:Int,(B4 x).length=4:=fun _=>rfl
  have hb0:=bit_F (rd c.Nodes (k:Int)).Sign
  have e1:=be1 K hK _ hb0
  rw [if_pos hlt,if_pos (Int.natCast_nonneg k),hbit,Option.bind_some,e1,Option.bind_some,be1 K hK _ b1,Option.bind_some,if_pos (by simp only [strL_size,L1];omega),be2 K hK _ b2,Option.bind_some,strL_app,if_pos (by simp only [strL_size,List.length_append,L1,L2];omega),
   be2 K hK _ b3,Option.bind_some,strL_app,if_pos (by simp only [strL_size,List.length_append,L1,L2];omega),be1 K hK _ b4,Option.bind_some,strL_app,if_pos (by simp only [strL_size,List.length_append,L1,L2];omega),be1 K hK _ b5,Option.bind_some,strL_app,if_pos (by simp only [strL_size,List.length_append,L1,L2];omega),
   be1 K hK _ b6,Option.bind_some,strL_app,if_pos (by simp only [strL_size,List.length_append,L1,L2];omega),be1 K hK _ b7,Option.bind_some,strL_app,if_pos (by simp only [strL_size,List.length_append,L1,L2];omega),be4 K hK _ b8,Option.bind_some,strL_app,if_pos (by simp only [strL_size,List.length_append,L1,L2,L4];omega),
   be2 K hK _ b9,Option.bind_some,strL_app,if_pos (by simp only [strL_size,List.length_append,L1,L2,L4];omega),strL_app,if_pos (by simp only [strL_size,List.length_append,L1,L2,L4];omega)]
  have hbyt:=byt_head (x:=rd c.Nodes (k:Int)) ⟨b1,b2,b3,b4,b5,b6,b7,b8,b9⟩
  have hassoc:B1 (if (rd c.Nodes (k:Int)).Sign=true then 1 else 0)++B1 (rd c.Nodes (k:Int)).Kind++B2 (rd c.Nodes (k:Int)).Name++B2 (rd c.Nodes (k:Int)).Place.Rule++B1 (rd c.Nodes (k:Int)).Place.Conj++B1 (rd c.Nodes (k:Int)).Place.Pos++B1 (rd c.Nodes (k:Int)).I++B1 (rd c.Nodes (k:Int)).J++B4 (rd c.Nodes (k:Int)).Rank++B2 ((rd c.Nodes (k:Int)).Picks.length:Int)=headB (rd c.Nodes (k:Int)):=by simp [headB]
  rw [hassoc,byt_back hbyt]
  obtain ⟨t,h3⟩:=RPut_l2 K hK c k (rd c.Nodes (k:Int)).Picks rfl fp (fun p hp=>(hb.k _ hmem p hp).1) (xs++headB (rd c.Nodes (k:Int))) (by rw [List.length_append,headB_len];omega) K (hb.p _ hmem).1 (hb.p _ hmem).2
  rw [h3,Option.bind_some,wr (a:=(k:Int)+1) (by omega) (by omega)]
  refine .inr ⟨(_,(k:Int)+1),⟨k+1,by simp,by omega,?_⟩,by simp only;omega,rfl⟩
  simp only
  rw [hx,ht]
  simp [nodeB]
 ·have:k=c.Nodes.length:=by omega
  subst this
  rw [if_neg hlt]
  exact .inl ⟨_,rfl,by simpa using hx⟩
theorem RPut_spec (K:Nat) (hK:20≤K) (c:Cert) (hb:PR K c):∃ r,Q1 K c=some r∧PutIs c r:=by
 have h64:=hb.n.2
 unfold Q1
 rw [fit4,Option.bind_some]
 by_cases hr:F4 c.Root
 case neg =>
  rw [decide_eq_false hr]
  exact ⟨_,rfl,.inl ⟨fun h=>hr h.1,rfl⟩⟩
 rw [decide_eq_true hr,if_neg (by decide)]
 obtain ⟨r,h1,h2,h3⟩:=all_loop c.Nodes.length (Q1.l0 K c) ((⟨#[]⟩:ByteArray),(1800:Int)) (fun i=>nodeOk (rd c.Nodes (i:Int))) (fun m i hi=>by
  have hmem:rd c.Nodes (i:Int) ∈ c.Nodes:=rd_mem (Int.natCast_nonneg i) (by omega)
  obtain ⟨b,b1,b2⟩:=nodeMay_spec K (rd c.Nodes (i:Int)) (hb.p _ hmem).1 (by have:=(hb.p _ hmem).2;omega) (fun p hp=>⟨(hb.k _ hmem p hp).1,by have:=(hb.k _ hmem p hp).2;omega⟩)
  refine ⟨b,b2,?_⟩
  simp only [Q1.l0]
  rw [if_pos (by omega),if_pos (Int.natCast_nonneg i),b1,Option.bind_some,wr (a:=(i:Int)+1) (by omega) (by omega)]
  cases b <;> simp) (fun m=>by simp only [Q1.l0];rw [if_neg (by omega)]) K hb.n.1
 rw [all_mem (Q:=nodeOk)] at h2 h3
 rw [h1]
 by_cases hall:∀ x ∈ c.Nodes,nodeOk x
 case neg =>
  rw [h3 hall]
  exact ⟨_,rfl,.inl ⟨fun h=>hall h.2,rfl⟩⟩
 rw [h2 hall]
 simp only [brk,Option.bind_some]
 by_cases hn:(65536:Int)<(c.Nodes.length:Int)
 ·rw [if_pos hn]
  exact ⟨_,rfl,.inr (.inl ⟨⟨hr,hall⟩,.inl (by omega),rfl⟩)⟩
 rw [if_neg hn]
 obtain ⟨k,k1,k2⟩:=size_spec K c hb
 rw [k1,Option.bind_some]
 by_cases hs:(1048576:Int)<(k:Int)
 ·rw [if_pos hs]
  exact ⟨_,rfl,.inr (.inl ⟨⟨hr,hall⟩,.inr (k2.1 (by omega)),rfl⟩)⟩
 rw [if_neg hs]
 have hcl:(certB c).length≤1048576:=Nat.le_of_not_lt fun h=>hs (by have:=k2.2 h;omega)
 have hF:F4 (c.Nodes.length:Int):=⟨by omega,by omega⟩
 have h84:(⟨#[84,67]⟩:ByteArray)=strL [84,67]:=by decide
 have L4:∀ x:Int,(B4 x).length=4:=fun _=>rfl
 have L0:([84,67]:List Int).length=2:=rfl
 have hby:Byt (([84,67]:List Int)++B4 c.Root++B4 (c.Nodes.length:Int)):=by
  refine (Byt.app ?_ (byt4 hr)).app (byt4 hF)
  intro v hv;simp at hv;rcases hv with rfl | rfl <;> decide
 rw [be4 K (by omega) _ hr,Option.bind_some,h84,if_pos (by simp only [strL_size,L4,L0];omega),be4 K (by omega) _ hF,Option.bind_some,strL_app,if_pos (by simp only [strL_size,List.length_append,L4,L0];omega),strL_app,if_pos (by simp only [strL_size,List.length_append,L4,L0];omega),byt_back hby]
 have hc:=certB_len c
 obtain ⟨t,h5⟩:=RPut_l1 K (by omega) c hb hall (([84,67]:List Int)++B4 c.Root++B4 (c.Nodes.length:Int)) (by simp only [List.length_append,L4,L0];omega) K hb.n.1
 rw [h5,Option.bind_some]
 have e:([84,67]:List Int)++B4 c.Root++B4 (c.Nodes.length:Int)++nodesB c.Nodes=certB c:=by simp [certB]
 rw [e]
 exact ⟨_,rfl,.inr (.inr ⟨⟨hr,hall⟩,by omega,hcl,rfl⟩)⟩
def val (bs:List Int):Int:=bs.foldl (fun x b=>x*256+b) 0
def pnum (n:Nat) (L:List Int):Option (Int×List Int):=if L.length<n then none else some (val (L.take n),L.drop n)
def pmany {T:Type} (p:List Int→Option (T×List Int)):Nat→List Int→Option (List T×List Int)
 | 0,L=>some ([],L)
 | n+1,L=>(p L).bind fun a=>(pmany p n a.2).bind fun b=>some (a.1::b.1,b.2)
def ppick (L:List Int):Option (Pick×List Int):=(pnum 2 L).bind fun a=>(pnum 1 a.2).bind fun b=>(pnum 1 b.2).bind fun n=>(pmany (pnum 4) n.1.toNat n.2).bind fun k=>some (⟨a.1,b.1,k.1⟩,k.2)
instance (x:Node):Decidable (shapeOk x):=by unfold shapeOk;infer_instance
def sg (s:Int):Bool:=decide (s=1)
def nodeT (s:Int) (x:Node):Bool:=decide (s≤1∧shapeOk x)
def pnode (L:List Int):Option (Node×List Int) :=
 (pnum 1 L).bind fun s=>(pnum 1 s.2).bind fun a=>(pnum 2 a.2).bind fun b=>(pnum 2 b.2).bind fun c=>(pnum 1 c.2).bind fun d=>(pnum 1 d.2).bind fun e=>(pnum 1 e.2).bind fun i=>(pnum 1 i.2).bind fun j=>(pnum 4 j.2).bind fun r=>(pnum 2 r.2).bind fun n =>
  (pmany ppick n.1.toNat n.2).bind fun q=>bif nodeT s.1 ⟨sg s.1,a.1,b.1,⟨c.1,d.1,e.1⟩,i.1,j.1,r.1,q.1⟩ then some (⟨sg s.1,a.1,b.1,⟨c.1,d.1,e.1⟩,i.1,j.1,r.1,q.1⟩,q.2) else none
def pcert (L:List Int):Option (Cert×List Int) :=
 if L.take 2=[84,67] then (pnum 4 (L.drop 2)).bind fun r=>(pnum 4 r.2).bind fun n=>bif decide (n.1≤65536) then (pmany pnode n.1.toNat n.2).bind fun q=>some (⟨r.1,q.1⟩,q.2) else none else none
def getR (L:List Int):Cert×Int:=if 1048576<L.length then (⟨0,[]⟩,1801) else match pcert L with
 | some (c,[])=>(c,0)
 | _=>(⟨0,[]⟩,1800)
theorem pmany_succ {T:Type} (p:List Int→Option (T×List Int)):∀ (n:Nat) (L:List Int),pmany p (n+1) L=(pmany p n L).bind fun a=>(p a.2).bind fun b=>some (a.1++[b.1],b.2):=by
 intro n
 induction n with
 | zero =>
  intro L
  simp only [pmany,Option.bind_some]
  cases p L <;> rfl
 | succ n ih =>
  intro L
  rw [pmany]
  cases h:p L with
  | none=>simp [pmany,h]
  | some a =>
   simp only [Option.bind_some]
   rw [ih]
   rw [pmany,h]
   simp only [Option.bind_some]
   cases h2:pmany p n a.2 with
   | none=>rfl
   | some b =>
    simp only [Option.bind_some]
    cases h3:p b.2 <;> simp
theorem pmany_none {T:Type} {p:List Int→Option (T×List Int)} {n m:Nat} {L:List Int} (h:pmany p n L=none) (hm:n≤m):pmany p m L=none:=by
 induction m with
 | zero =>
      have:n=0:=by omega
      subst this;exact h
 | succ m ih =>
  rcases Nat.lt_or_ge m n with h' | h'
  ·have:n=m+1:=by omega
   subst this;exact h
  ·rw [pmany_succ,ih h'];rfl
theorem pmany_len {T:Type} {p:List Int→Option (T×List Int)}:∀ {n:Nat} {L:List Int} {r:List T×List Int},pmany p n L=some r→r.1.length=n:=by
 intro n
 induction n with
 | zero=>intro L r h;simp [pmany] at h;subst h;rfl
 | succ n ih =>
  intro L r h
  rw [pmany] at h
  cases h1:p L with
  | none=>rw [h1] at h;cases h
  | some a =>
   rw [h1,Option.bind_some] at h
   cases h2:pmany p n a.2 with
   | none=>rw [h2] at h;cases h
   | some b =>
    rw [h2,Option.bind_some] at h
    cases h
    simp [ih h2]
theorem val1 (a:Int):val [a]=a:=by simp [val]
theorem val2 (a b:Int):val [a,b]=a*256+b:=by simp [val]
theorem val4 (a b c d:Int):val [a,b,c,d]=((a*256+b)*256+c)*256+d:=by simp [val]
theorem val_app (a:List Int) (b:Int):val (a++[b])=val a*256+b:=by simp [val]
theorem ior_i64 {a b:Nat} (ha:a<2 ^ 63) (hb:b<2 ^ 63):ior .i64 (a:Int) (b:Int)=((a ||| b:Nat):Int):=by
 unfold ior
 rw [show IntKind.i64.bits=64 from rfl,BitVec.ofInt_natCast,BitVec.ofInt_natCast,BitVec.toNat_or,BitVec.toNat_ofNat,BitVec.toNat_ofNat,Nat.mod_eq_of_lt (by omega),Nat.mod_eq_of_lt (by omega)]
 have:=Nat.or_lt_two_pow ha hb
 rw [wr (by omega) (by omega)]
theorem shift_or {x b:Int} (h0:0≤x) (h1:x<16777216) (b0:0≤b) (b1:b<256):ior .i64 (ishl .i64 x 8) (IntKind.wrap .i64 b)=x*256+b:=by
 obtain ⟨n,rfl⟩:=Int.eq_ofNat_of_zero_le h0
 obtain ⟨m,rfl⟩:=Int.eq_ofNat_of_zero_le b0
 have e:ishl .i64 (n:Int) 8=((n <<< 8:Nat):Int):=by
  unfold ishl
  rw [show min (8:Int).toNat IntKind.i64.bits=8 from rfl,wr (by omega) (by omega),Nat.shiftLeft_eq]
  simp
 rw [e,wr (a:=(m:Int)) (by omega) (by omega),ior_i64 (by rw [Nat.shiftLeft_eq];omega) (by omega),← Nat.shiftLeft_add_eq_or_of_lt (by omega),Nat.shiftLeft_eq]
 omega
theorem bt_rd (s:ByteArray) (i:Int):bt s i=rd (bytesL s) i:=by
 unfold bt rd bytesL
 rw [List.getD_eq_getElem?_getD,List.getElem?_map,Array.getD_eq_getD_getElem?,← Array.getElem?_toList]
 cases s.data.toList[i.toNat]? <;> rfl
theorem bytesL_sls (s:ByteArray) (a b:Int):bytesL (sls s a b)=((bytesL s).take b.toNat).drop a.toNat:=by
 unfold bytesL sls
 rw [ByteArray.data_extract,Array.toList_extract]
 simp [List.extract,List.map_drop,List.map_take,List.drop_take]
def Out {T:Type} (o:Option (T×List Int)) (v:T) (r:Pack_reader):Prop:=match o with
 | none=>r.bad=true
 | some (x,L)=>v=x∧r.bad=false∧bytesL r.s=L
theorem rnum_l0 (K:Nat) (r:Pack_reader) (L:List Int) (hL:bytesL r.s=L) (n:Nat) (hn:n≤4) (hl:n≤L.length) (m:Nat) (hm:n<m):∃ t,M0.l0 K r n m (0,0)=some (val (L.take n),t):=by
 have hsz:r.s.size=L.length:=by rw [← hL,bytesL_length]
 have:=rounds (L:=M0.l0 K r n) (fun s=>∃ t:Nat,s.2=t∧t≤n∧s.1=val (L.take t)∧0≤s.1∧s.1<256 ^ t) (fun s=>n-s.2.toNat) (fun q=>q.1=val (L.take n)) (fun s m hI=>?_) m (0,0) ⟨0,rfl,by omega,by simp [val],by simp,by simp⟩ (by simp only [Int.toNat_zero];omega)
 ·obtain ⟨⟨x,t⟩,h1,h2⟩:=this
  exact ⟨t,by rw [h1];simp only at h2;rw [h2]⟩
 obtain ⟨x,t'⟩:=s
 obtain ⟨t,rfl,ht,hx,hx0,hx1⟩:=hI
 simp only at hx hx0 hx1
 simp only [M0.l0]
 by_cases hlt:(t:Int)<n
 ·have hlt':t<n:=by omega
  have hby:=bytesL_byt r.s
  rw [hL] at hby
  obtain ⟨b0,b1⟩:=hby (rd L (t:Int)) (rd_mem (Int.natCast_nonneg t) (by omega))
  have hx2:x<16777216:=by
   have:t≤3:=by omega
   have:(256:Int) ^ t≤256 ^ 3:=by exact_mod_cast Nat.pow_le_pow_right (by decide) this
   have:(256:Int) ^ 3=16777216:=rfl
   omega
  rw [if_pos hlt,if_pos (Int.natCast_nonneg t),if_pos (by omega),bt_rd,hL,shift_or hx0 hx2 b0 b1,wr (a:=(t:Int)+1) (by omega) (by omega)]
  have e:L.take (t+1)=L.take t++[rd L (t:Int)]:=by
   rw [List.take_add_one,rd_nat]
   have:t<L.length:=by omega
   simp [List.getD_eq_getElem?_getD,this]
  refine .inr ⟨(_,(t:Int)+1),⟨t+1,by simp,by omega,by simp only;rw [e,val_app,hx],by simp only;omega,?_⟩,by simp only;omega,rfl⟩
  simp only
  rw [Int.pow_succ];omega
 ·have:t=n:=by omega
  subst this
  rw [if_neg hlt]
  exact .inl ⟨_,rfl,hx⟩
theorem rnum_spec (K:Nat) (hK:6≤K) (r:Pack_reader) (hb:r.bad=false) (hsz:r.s.size≤1099511627776) (n:Nat) (hn:n≤4):∃ v r',M0 K r n=some (v,r')∧Out (pnum n (bytesL r.s)) v r'∧r'.s.size≤r.s.size:=by
 unfold M0 pnum
 rw [hb,if_neg (by decide),Option.bind_some,bytesL_length]
 by_cases hlt:r.s.size<n
 ·rw [decide_eq_true (by omega),if_pos rfl,if_pos hlt]
  exact ⟨_,_,rfl,rfl,Nat.le_refl _⟩
 ·obtain ⟨t,h1⟩:=rnum_l0 K r _ rfl n hn (by rw [bytesL_length];omega) K (by omega)
  rw [decide_eq_false (by omega),if_neg (by decide),if_neg hlt,h1]
  simp only [Option.bind_some]
  rw [if_pos (Int.natCast_nonneg n),if_pos (by omega)]
  refine ⟨_,_,rfl,⟨rfl,rfl,?_⟩,?_⟩
  ·rw [bytesL_sls,Int.toNat_natCast,Int.toNat_natCast,← bytesL_length,List.take_length]
  ·have:=congrArg List.length (bytesL_sls r.s (n:Int) (r.s.size:Int))
   rw [bytesL_length,List.length_drop,List.length_take,bytesL_length] at this
   show (sls r.s (n:Int) (r.s.size:Int)).size≤r.s.size
   omega
theorem rnum_bad (K:Nat) (r:Pack_reader) (hb:r.bad=true) (n:Int):M0 K r n=some (0,⟨r.s,true⟩):=by
 unfold M0
 rw [hb,if_pos rfl,Option.bind_some,if_pos rfl]
theorem many_loop {T:Type} (L:Nat→(List T×ByteArray×Bool×Int)→Option (List T×ByteArray×Bool×Int)) (f:Pack_reader→Option (T×Pack_reader)) (p:List Int→Option (T×List Int))
  (hL:∀ m xs s b n,L (m+1) (xs,s,b,n)=if 0<n then if (!b)=true then (f (⟨s,b⟩:Pack_reader)).bind fun r_12=>if (xs.length+([r_12.1]:List T).length)*16≤140737488355328 then L m (xs++([r_12.1]:List T),r_12.2.s,r_12.2.bad,IntKind.wrap .i64 (n-1)) else none else some (xs,s,b,n) else some (xs,s,b,n))
  (bound:Nat) (hf:∀ r:Pack_reader,r.bad=false→r.s.size≤bound→∃ v r',f r=some (v,r')∧Out (p (bytesL r.s)) v r'∧r'.s.size≤r.s.size) (N:Nat) (hN:N≤4294967296) (r0:Pack_reader) (hb:r0.bad=false) (hs:r0.s.size≤bound) (m:Nat) (hm:N<m) :
  ∃ xs s b n,L m ([],r0.s,r0.bad,(N:Int))=some (xs,s,b,n)∧Out (pmany p N (bytesL r0.s)) xs ⟨s,b⟩∧s.size≤r0.s.size∧xs.length≤N:=by
 have:=rounds (L:=L) (fun q=>∃ k:Nat,q.2.2.2=((N-k:Nat):Int)∧k≤N∧q.1.length=k∧q.2.1.size≤r0.s.size∧((q.2.2.1=false∧pmany p k (bytesL r0.s)=some (q.1,bytesL q.2.1))∨(q.2.2.1=true∧pmany p k (bytesL r0.s)=none))) (fun q=>q.2.2.2.toNat) (fun q=>Out (pmany p N (bytesL r0.s)) q.1 ⟨q.2.1,q.2.2.1⟩∧q.2.1.size≤r0.s.size∧q.1.length≤N) (fun q m hI=>?_) m ([],r0.s,r0.bad,(N:Int)) ⟨0,by simp,by omega,rfl,Nat.le_refl _,.inl ⟨hb,rfl⟩⟩ (by simp only [Int.toNat_natCast];omega)
 ·obtain ⟨⟨xs,s,b,n⟩,h1,h2,h3,h4⟩:=this
  exact ⟨xs,s,b,n,h1,h2,h3,h4⟩
 obtain ⟨xs,s,b,n'⟩:=q
 obtain ⟨k,hn',hk,hx,hsz,hcase⟩:=hI
 simp only at hn' hx hsz hcase
 subst hn'
 rw [hL]
 rcases hcase with ⟨rfl,hp⟩ | ⟨rfl,hp⟩
 ·by_cases hlt:k<N
  ·obtain ⟨v,r',h1,h2,h3⟩:=hf ⟨s,false⟩ rfl (by simp only;omega)
   rw [if_pos (by omega),if_pos (by decide),h1,Option.bind_some,if_pos (by rw [List.length_singleton];omega),wr (by omega) (by omega)]
   refine .inr ⟨(xs++[v],r'.s,r'.bad,((N-k:Nat):Int)-1),⟨k+1,by simp only;omega,by omega,by simp [hx],by simp only at h3 ⊢;omega,?_⟩,by simp only;omega,rfl⟩
   have hs:=pmany_succ p k (bytesL r0.s)
   rw [hp,Option.bind_some] at hs
   simp only at h2 hs ⊢
   cases ho:p (bytesL s) with
   | none =>
    rw [ho] at h2 hs
    exact .inr ⟨h2,by rw [hs];rfl⟩
   | some a =>
    rw [ho] at h2 hs
    obtain ⟨q1,q2,q3⟩:=h2
    exact .inl ⟨q2,by rw [hs,q3,q1];rfl⟩
  ·have:k=N:=by omega
   subst this
   rw [if_neg (by omega)]
   refine .inl ⟨_,rfl,?_,hsz,by simp only;omega⟩
   simp only [hp]
   exact ⟨rfl,rfl,rfl⟩
 ·refine .inl ⟨(xs,s,true,((N-k:Nat):Int)),by split <;> rfl,?_,hsz,by simp only;omega⟩
  simp only [pmany_none hp hk]
  exact rfl
theorem many_bad {T:Type} (L:Nat→(List T×ByteArray×Bool×Int)→Option (List T×ByteArray×Bool×Int)) (f:Pack_reader→Option (T×Pack_reader))
  (hL:∀ m xs s b n,L (m+1) (xs,s,b,n)=if 0<n then if (!b)=true then (f (⟨s,b⟩:Pack_reader)).bind fun r_12=>if (xs.length+([r_12.1]:List T).length)*16≤140737488355328 then L m (xs++([r_12.1]:List T),r_12.2.s,r_12.2.bad,IntKind.wrap .i64 (n-1)) else none else some (xs,s,b,n) else some (xs,s,b,n))
  (m:Nat) (s:ByteArray) (n:Int):L (m+1) ([],s,true,n)=some ([],s,true,n):=by
 rw [hL];split <;> rfl
theorem as_loop {T:Type} [Inhabited T] (all:List T) (L:Nat→(List T×Int)→Option (List T×Int)) (sz:Nat)
  (hL:∀ m xs t,L (m+1) (xs,t)=if t<(all.length:Int) then if 0≤t then if (xs.length+([rd all t]:List T).length)*sz≤140737488355328 then L m (xs++([rd all t]:List T),IntKind.wrap .i64 (t+1)) else none else none else some (xs,t))
  (hsz:(all.length+1)*sz≤140737488355328) (hl:all.length≤9223372036854775000) (m:Nat) (hm:all.length<m):∃ t,L m ([],0)=some (all,t):=by
 have:=rounds (L:=L) (fun s=>∃ t:Nat,s.2=t∧t≤all.length∧s.1=all.take t) (fun s=>all.length-s.2.toNat) (fun r=>r.1=all) (fun s m hI=>?_) m ([],0) ⟨0,rfl,by omega,by simp⟩ (by simp only [Int.toNat_zero];omega)
 ·obtain ⟨⟨xs,t⟩,h1,h2⟩:=this
  exact ⟨t,by rw [h1];simp only at h2;rw [h2]⟩
 obtain ⟨xs,t'⟩:=s
 obtain ⟨t,rfl,ht,hx⟩:=hI
 simp only at hx
 rw [hL]
 by_cases hlt:(t:Int)<all.length
 ·have hlt':t<all.length:=by omega
  have e:all.take (t+1)=all.take t++[rd all (t:Int)]:=by
   rw [List.take_add_one,rd_nat]
   simp [List.getD_eq_getElem?_getD,hlt']
  have hb:(xs.length+([rd all (t:Int)]:List T).length)*sz≤140737488355328:=by
   refine Nat.le_trans (Nat.mul_le_mul_right _ ?_) hsz
   rw [hx,List.length_take,List.length_singleton];omega
  rw [if_pos hlt,if_pos (Int.natCast_nonneg t),if_pos hb,wr (a:=(t:Int)+1) (by omega) (by omega)]
  exact .inr ⟨(_,(t:Int)+1),⟨t+1,by simp,by omega,by simp only;rw [hx,e]⟩,by simp only;omega,rfl⟩
 ·have:t=all.length:=by omega
  subst this
  rw [if_neg hlt]
  exact .inl ⟨_,rfl,by simpa using hx⟩
end Go.Proofs.Ytokccimmgilciaa

