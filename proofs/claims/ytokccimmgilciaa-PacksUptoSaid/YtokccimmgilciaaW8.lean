import Derived.Test.YtokccimmgilciaaW7
namespace Go.Proofs.Ytokccimmgilciaa
open S Go.RowKit
set_option linter.unusedVariables false
set_option linter.unusedSimpArgs false
def cPickN:Co Pick:=⟨fun x=>[Ai .i64 x.At,Ai .i64 x.Conj,.nz (.fsl (cI .i64) x.Kids)],3,by decide,fun _=>rfl,fun _=>⟨oLit rfl,oLit rfl,oNz oFsl,trivial⟩⟩
def cNodeN:Co Node:=⟨fun x=>[Ab x.Sign,Ai .i64 x.Kind,Ai .i64 x.Name,Ai .i64 x.Place.Rule,Ai .i64 x.Place.Conj,Ai .i64 x.Place.Pos,Ai .i64 x.I,Ai .i64 x.J,Ai .i64 x.Rank,.nz (.fsl cPick x.Picks)],10,by decide,fun _=>rfl,fun _=>⟨oLit rfl,oLit rfl,oLit rfl,oLit rfl,oLit rfl,oLit rfl,oLit rfl,oLit rfl,oLit rfl,oNz oFsl,trivial⟩⟩
def cCertN:Co Cert:=⟨fun x=>[Ai .i64 x.Root,.nz (.fsl cNode x.Nodes)],2,by decide,fun _=>rfl,fun _=>⟨oLit rfl,oNz oFsl,trivial⟩⟩
theorem slices_Clip_int_int_okN (K:Nat) (s_1:(List Int)):Pure Try.prog 51 [.nz (.fsl (cI .i64) s_1)] (slices_Clip_int_int K s_1) (fun r=>.nz (.fsl (cI .i64) r)):=by
 refine spec_of' Try.func51 rfl Try.ntmps51 (le_ rfl) ?_
 refine Q0<|G0 rfl<|sQ (dAs rfl) rfl<|j0<|Q0<|G0 rfl<|sQ (dMv rfl) rfl<|sQ (dMv rfl) rfl<|sQ (wb Try.underlying47 rfl) rfl<|sQ (dMv rfl) rfl<|sQ (wb Try.underlying47 rfl) rfl<|sQ (Wc Try.underlying47 z3 rfl rfl rfl (Int.natCast_nonneg _) (Int.le_refl _) (Int.le_refl _)) rfl<|sQ (dAs rfl) rfl<|j0<|Q2 [] Try.func51 Try.results51 (rT rfl) ⟨rfl,rfl⟩
theorem qb (K:Nat) (all_1:(List Int)):Pure Try.prog 48 [.fsl (cIf 3 fun (x:Int)=>Ai .i64 x) all_1] (W5 K all_1) (fun r=>.nz (.fsl (cI .i64) r)):=by
 refine spec_of' Try.func48 rfl Try.ntmps48 (le_ rfl) ?_
 refine Q0<|G0 rfl<|sQ (dAs rfl) rfl<|j0<|Q0<|G0 rfl<|sQ (dAs rfl) rfl<|j0<|Q0<|Q0<|G0 rfl<|sQ (dMv rfl) rfl<|sQ (P6 Try.underlying75 rfl) rfl<|sQ (dMv rfl) rfl<|j0<|pb 3 3 (cI .i64) rfl fun v_2=>G6 (W5.l0 K all_1) (fun ((xs_4,t_5):((List Int)×Int)) (v_3:Value)=>([(3,.sv v_3),(6,.fsl (cIf 3 fun (x:Int)=>Ai .i64 x) all_1),(7,Ai .i64 (all_1.length:Int)),(8,Ai .i64 t_5)]:Fr)) (fun ((xs_4,t_5):((List Int)×Int)) (v_3:Value)=>([.own 3 (cI .i64) v_3 xs_4]:List Res)) (fun ((xs_4,t_5):((List Int)×Int)) (v_3:Value)=>([(3,.sv v_3),(6,.fsl (cIf 3 fun (x:Int)=>Ai .i64 x) all_1),(7,Ai .i64 (all_1.length:Int)),(8,Ai .i64 t_5)]:Fr)) (fun ((xs_4,t_5):((List Int)×Int)) (v_3:Value)=>([.own 3 (cI .i64) v_3 xs_4]:List Res)) v_2 (fun _=>rfl) [] ⟨rfl,rfl,rfl,rfl,trivial⟩ rfl ?_ ?_
 ·rintro ⟨xs_4,t_5⟩ v_3
  refine Q0<|G0 rfl<|sQ (dMv rfl) rfl<|Jc (cI .i64) 0 18 rfl rfl (fun _=>rfl) rfl<|V1 fun r_10 e_11=>sQ (j4 ent51 (slices_Clip_int_int_okN K _) e_11 (.s rfl .nil)) rfl<|sQ (dAs rfl) rfl<|j0<|Q2 [0] Try.func48 Try.results48 (rT rfl) ⟨rfl,rfl⟩
 ·rintro m ⟨xs_4,t_5⟩ v_3 again_0 out_0
  refine Q0<|G0 rfl<|sQ (dLt rfl rfl) rfl<|j0<|Q0<|P5 rfl (fun h_6=>?_) (fun h_6=>?_)
  ·refine M3<|Q0<|f7<|Q0<|G0 rfl<|t6 fun h_7=>sQ (dIx Try.underlying75 z20 rfl rfl h_7 h_6) rfl<|sQ (dLd g20 rfl rfl) rfl<|sQ (dAs rfl) rfl<|j0<|G0 rfl<|sQ (dMv rfl) rfl<|sQ (dMv rfl) rfl<|sQ (dTA ni3 rfl) rfl<|sQ (dBS (c:=(cI .i64)) (xs:=([rd all_1 t_5]:List Int)) Try.underlying47 z3 La (.c rfl (cOne (oLit rfl)) .nil) rfl) rfl<|t6 fun h_8=>sAp (j:=0) Try.underlying47 La rfl rfl rfl rfl h_8 rfl rfl fun v_9=>sQ (dAs rfl) rfl<|j0<|P4<|G0 rfl<|sQ (Q7 rfl rfl) rfl<|sQ (dMv rfl) rfl<|j0<|k4 (again_0 (xs_4++([rd all_1 t_5]:List Int),IntKind.wrap .i64 (t_5+1)) v_9) [0] ⟨rfl,rfl,rfl,rfl,trivial⟩ rfl
  ·refine J5 rfl<|k4 (out_0 (xs_4,t_5) v_3) [0] ⟨rfl,rfl,rfl,rfl,trivial⟩ rfl
theorem fb (K:Nat) (r_1:Pack_reader) (b_2:Nat):Hands Try.prog 43 [.lit (.pointer (some ⟨b_2,0,none⟩))] ([.box b_2 [.lit (.string r_1.s),Ab r_1.bad]]) (k8 K r_1) (fun (r:(Pick×Pack_reader)) (_:Unit)=>.ifc 49 (.agg (cPickN.e r.1))) (fun (r:(Pick×Pack_reader)) (_:Unit)=>[.box b_2 [.lit (.string r.2.s),Ab r.2.bad]]):=by
 refine obj_of Try.func43 rfl Try.ntmps43 (le_ rfl) ?_
 refine Q0<|G0 rfl<|sQ (dAs rfl) rfl<|j0<|Q0<|G0 rfl<|sQ (dMv rfl) rfl<|V1 fun r_3 e_4=>J2 [0] ent28 rfl (W0 K _ _ _) e_4 rfl (.s rfl<|.s rfl .nil) rfl fun _=>sQ (dMv rfl) rfl<|V1 fun r_5 e_6=>J2 [0] ent28 rfl (W0 K _ _ _) e_6 rfl (.s rfl<|.s rfl .nil) rfl fun _=>sQ (G5 (az:=[Ai .i64 (0:Int),Ai .i64 (0:Int),.lit (.slice none 0 0)]) Try.underlying49 zv49 pl49 (fun _ _=>.cons rfl (.cons rfl (.cons rfl .nil))) (.c rfl rfl (cOne (oLit rfl)) rfl rfl (.c rfl rfl (cOne (oLit rfl)) rfl rfl .nil))) rfl<|V5 (az:=[Ai .i64 (0:Int),Ai .i64 (0:Int),.lit (.slice none 0 0)]) al49 (fun _ _=>.cons rfl (.cons rfl (.cons rfl .nil))) rfl fun b_7=>V4 (j:=0) z49 rfl rfl rfl cAgg ⟨(oLit rfl),(oLit rfl),(oLit rfl),trivial⟩ rfl (le_ rfl)<|j0<|Q0<|G0 rfl<|sQ (dMv rfl) rfl<|sQ (dMv rfl) rfl<|V1 fun r_8 e_9=>J2 [1] ent28 rfl (W0 K _ _ _) e_9 rfl (.s rfl<|.s rfl .nil) rfl fun _=>V1 fun r_10 e_11=>J2 [0] ent30 rfl (M8 K _ _ _) e_11 rfl (.s rfl<|.s rfl<|.s rfl .nil) rfl fun _=>V1 fun r_12 e_13=>sQ (j4 ent48 (qb K _) e_13 (.s rfl .nil)) rfl<|sQ (P2 fa49_2 rfl) rfl<|V4 (j:=1) z47 rfl rfl rfl (cOne (oNz oFsl)) ⟨oNz oFsl,trivial⟩ rfl (le_ rfl)<|j0<|Q0<|G0 rfl<|sQ (J6 (j:=1) g49 z49 rfl rfl (le_ rfl)) rfl<|sQ (Vb ni49 rfl) rfl<|sQ (dAs rfl) rfl<|j0<|sPk [0] (H':=[.box b_2 [.lit (.string r_10.2.s),Ab r_10.2.bad]]) rfl<|Q2 [] Try.func43 Try.results43 (rT rfl) ⟨(),rfl,rfl⟩
theorem slices_Clip_api_Pick_api_Pick_okN (K:Nat) (s_1:(List Pick)):Pure Try.prog 47 [.nz (.fsl cPick s_1)] (slices_Clip_api_Pick_api_Pick K s_1) (fun r=>.nz (.fsl cPick r)):=by
 refine spec_of' Try.func47 rfl Try.ntmps47 (le_ rfl) ?_
 refine Q0<|G0 rfl<|sQ (dAs rfl) rfl<|j0<|Q0<|G0 rfl<|sQ (dMv rfl) rfl<|sQ (dMv rfl) rfl<|sQ (wb Try.underlying44 rfl) rfl<|sQ (dMv rfl) rfl<|sQ (wb Try.underlying44 rfl) rfl<|sQ (Wc Try.underlying44 z49 rfl rfl rfl (Int.natCast_nonneg _) (Int.le_refl _) (Int.le_refl _)) rfl<|sQ (dAs rfl) rfl<|j0<|Q2 [] Try.func47 Try.results47 (rT rfl) ⟨rfl,rfl⟩
theorem V9 (K:Nat) (all_1:(List Pick)):Pure Try.prog 42 [.fsl (cIf 49 fun (x:Pick)=>.agg (cPickN.e x)) all_1] (j5 K all_1) (fun r=>.nz (.fsl cPick r)):=by
 refine spec_of' Try.func42 rfl Try.ntmps42 (le_ rfl) ?_
 refine Q0<|G0 rfl<|sQ (dAs rfl) rfl<|j0<|Q0<|G0 rfl<|sQ (dAs rfl) rfl<|j0<|Q0<|Q0<|G0 rfl<|sQ (dMv rfl) rfl<|sQ (P6 Try.underlying75 rfl) rfl<|sQ (dMv rfl) rfl<|j0<|pb 3 49 cPickN rfl fun v_2=>G6 (j5.l0 K all_1) (fun ((xs_4,t_5):((List Pick)×Int)) (v_3:Value)=>([(3,.sv v_3),(6,.fsl (cIf 49 fun (x:Pick)=>.agg (cPickN.e x)) all_1),(7,Ai .i64 (all_1.length:Int)),(8,Ai .i64 t_5)]:Fr)) (fun ((xs_4,t_5):((List Pick)×Int)) (v_3:Value)=>([.own 49 cPickN v_3 xs_4]:List Res)) (fun ((xs_4,t_5):((List Pick)×Int)) (v_3:Value)=>([(3,.sv v_3),(6,.fsl (cIf 49 fun (x:Pick)=>.agg (cPickN.e x)) all_1),(7,Ai .i64 (all_1.length:Int)),(8,Ai .i64 t_5)]:Fr)) (fun ((xs_4,t_5):((List Pick)×Int)) (v_3:Value)=>([.own 49 cPickN v_3 xs_4]:List Res)) v_2 (fun _=>rfl) [] ⟨rfl,rfl,rfl,rfl,trivial⟩ rfl ?_ ?_
 ·rintro ⟨xs_4,t_5⟩ v_3
  refine Q0<|G0 rfl<|sQ (dMv rfl) rfl<|Jc cPick 0 18 rfl rfl (fun _=>rfl) rfl<|V1 fun r_10 e_11=>sQ (j4 ent47 (slices_Clip_api_Pick_api_Pick_okN K _) e_11 (.s rfl .nil)) rfl<|sQ (dAs rfl) rfl<|j0<|Q2 [0] Try.func42 Try.results42 (rT rfl) ⟨rfl,rfl⟩
 ·rintro m ⟨xs_4,t_5⟩ v_3 again_0 out_0
  refine Q0<|G0 rfl<|sQ (dLt rfl rfl) rfl<|j0<|Q0<|P5 rfl (fun h_6=>?_) (fun h_6=>?_)
  ·refine M3<|Q0<|f7<|Q0<|G0 rfl<|t6 fun h_7=>sQ (dIx Try.underlying75 z20 rfl rfl h_7 h_6) rfl<|sQ (dLd g20 rfl rfl) rfl<|sQ (dAs rfl) rfl<|j0<|G0 rfl<|sQ (dMv rfl) rfl<|sQ (dMv rfl) rfl<|sQ (dTA ni49 rfl) rfl<|sQ (dBS (c:=cPickN) (xs:=([rd all_1 t_5]:List Pick)) Try.underlying44 z49 Q9 (.c rfl cAgg .nil) rfl) rfl<|t6 fun h_8=>sAp (j:=0) Try.underlying44 Q9 rfl rfl rfl rfl h_8 rfl rfl fun v_9=>sQ (dAs rfl) rfl<|j0<|P4<|G0 rfl<|sQ (Q7 rfl rfl) rfl<|sQ (dMv rfl) rfl<|j0<|k4 (again_0 (xs_4++([rd all_1 t_5]:List Pick),IntKind.wrap .i64 (t_5+1)) v_9) [0] ⟨rfl,rfl,rfl,rfl,trivial⟩ rfl
  ·refine J5 rfl<|k4 (out_0 (xs_4,t_5) v_3) [0] ⟨rfl,rfl,rfl,rfl,trivial⟩ rfl
theorem ca (K:Nat) (r_1:Pack_reader) (n_3:Int) (b_2:Nat):Hands Try.prog 30 [.lit (.pointer (some ⟨b_2,0,none⟩)),Ai .i64 n_3,.lit (.func (.func 43) #[] #[])] ([.box b_2 [.lit (.string r_1.s),Ab r_1.bad]]) (V3 K r_1 n_3) (fun (r:((List Pick)×Pack_reader)) (_:Unit)=>.fsl (cIf 49 fun (x:Pick)=>.agg (cPickN.e x)) r.1) (fun (r:((List Pick)×Pack_reader)) (_:Unit)=>[.box b_2 [.lit (.string r.2.s),Ab r.2.bad]]):=by
 refine obj_of Try.func30 rfl Try.ntmps30 (le_ rfl) ?_
 refine Q0<|G0 rfl<|sQ (dAs rfl) rfl<|j0<|Q0<|G0 rfl<|sQ (dAs rfl) rfl<|j0<|Q0<|pb 7 20 (cIf 49 fun (x:Pick)=>.agg (cPickN.e x)) rfl fun v_4=>G6 (V3.l0 K) (fun ((xs_6,c_7,c_8,n_9):((List Pick)×ByteArray×Bool×Int)) (v_5:Value)=>([(0,.lit (.pointer (some ⟨b_2,0,none⟩))),(1,Ai .i64 n_9),(2,.lit (.func (.func 43) #[] #[])),(7,.sv v_5)]:Fr)) (fun ((xs_6,c_7,c_8,n_9):((List Pick)×ByteArray×Bool×Int)) (v_5:Value)=>([.own 20 (cIf 49 fun (x:Pick)=>.agg (cPickN.e x)) v_5 xs_6,.box b_2 [.lit (.string c_7),Ab c_8]]:List Res)) (fun ((xs_6,c_7,c_8,n_9):((List Pick)×ByteArray×Bool×Int)) (v_5:Value)=>([(0,.lit (.pointer (some ⟨b_2,0,none⟩))),(1,Ai .i64 n_9),(2,.lit (.func (.func 43) #[] #[])),(7,.sv v_5)]:Fr)) (fun ((xs_6,c_7,c_8,n_9):((List Pick)×ByteArray×Bool×Int)) (v_5:Value)=>([.own 20 (cIf 49 fun (x:Pick)=>.agg (cPickN.e x)) v_5 xs_6,.box b_2 [.lit (.string c_7),Ab c_8]]:List Res)) v_4 (fun _=>rfl) [] ⟨rfl,rfl,rfl,rfl,trivial⟩ rfl ?_ ?_
 ·rintro ⟨xs_6,c_7,c_8,n_9⟩ v_5
  refine Q0<|G0 rfl<|sQ (dMv rfl) rfl<|sQ (dAs rfl) rfl<|j0<|sFz 0 rfl<|sUp 6 0 rfl rfl<|sPk [1] (H':=[.box b_2 [.lit (.string c_7),Ab c_8]]) rfl<|Q2 [] Try.func30 Try.results30 (rT rfl) ⟨(),rfl,rfl⟩
 ·rintro m ⟨xs_6,c_7,c_8,n_9⟩ v_5 again_0 out_0
  refine Q0<|Q0<|G0 rfl<|sQ (dMv rfl) rfl<|sQ (dGt rfl rfl) rfl<|sQ (dMv rfl) rfl<|Q4 (fun h_10=>?_) (fun h_10=>?_)
  ·refine sQg (j:=2) rfl rfl rfl (decide_eq_true h_10) rfl (dMv rfl) rfl<|sQg (j:=2) rfl rfl rfl (decide_eq_true h_10) rfl (dNc ptLit rfl) rfl<|sQg (j:=2) rfl rfl rfl (decide_eq_true h_10) rfl (P2 fa72_1 rfl) rfl<|sQg (j:=2) rfl rfl rfl (decide_eq_true h_10) rfl (Q5 (j:=1) g4 rfl rfl rfl) rfl<|sQg (j:=2) rfl rfl rfl (decide_eq_true h_10) rfl (L8 rfl) rfl<|sQ (W1 rfl (decide_eq_true h_10) rfl) rfl<|j0<|M6 rfl (fun h_11=>?_) (fun h_11=>?_)
   ·refine M3<|Q0<|f7<|G0 rfl<|sQ (dMv rfl) rfl<|sQ (dMv rfl) rfl<|sQ (dMv rfl) rfl<|V1 fun r_12 e_13=>J2 [1] ent43 rfl (fb K _ _) e_13 rfl (.s rfl .nil) rfl fun _=>sQ (dBS (c:=(cIf 49 fun (x:Pick)=>.agg (cPickN.e x))) (xs:=([r_12.1]:List Pick)) Try.underlying75 z20 W8 (.c rfl (cOne oIfc) .nil) rfl) rfl<|t6 fun h_14=>sAp (j:=1) Try.underlying75 W8 rfl rfl rfl rfl h_14 rfl rfl fun v_15=>sQ (dAs rfl) rfl<|j0<|P4<|G0 rfl<|sQ (dMv rfl) rfl<|sQ (vb rfl rfl) rfl<|sQ (dAs rfl) rfl<|j0<|k4 (again_0 (xs_6++([r_12.1]:List Pick),r_12.2.s,r_12.2.bad,IntKind.wrap .i64 (n_9-1)) v_15) [1,0] ⟨rfl,rfl,rfl,rfl,trivial⟩ rfl
   ·refine J5 rfl<|k4 (out_0 (xs_6,c_7,c_8,n_9) v_5) [0,0] ⟨rfl,rfl,rfl,rfl,trivial⟩ rfl
  ·refine sQu (j:=2) rfl rfl rfl (decide_eq_false h_10) rfl rfl<|sQu (j:=2) rfl rfl rfl (decide_eq_false h_10) rfl rfl<|sQu (j:=2) rfl rfl rfl (decide_eq_false h_10) rfl rfl<|sQu (j:=2) rfl rfl rfl (decide_eq_false h_10) rfl rfl<|sQu (j:=2) rfl rfl rfl (decide_eq_false h_10) rfl rfl<|sQ (V0 rfl (decide_eq_false h_10) rfl) rfl<|j0<|L7 rfl rfl<|J5 rfl<|k4 (out_0 (xs_6,c_7,c_8,n_9) v_5) [0,0] ⟨rfl,rfl,rfl,rfl,trivial⟩ rfl
theorem mb (K:Nat) (r_1:Pack_reader) (b_2:Nat):Hands Try.prog 31 [.lit (.pointer (some ⟨b_2,0,none⟩))] ([.box b_2 [.lit (.string r_1.s),Ab r_1.bad]]) (f8 K r_1) (fun (r:(Node×Pack_reader)) (_:Unit)=>.ifc 46 (.agg (cNodeN.e r.1))) (fun (r:(Node×Pack_reader)) (_:Unit)=>[.box b_2 [.lit (.string r.2.s),Ab r.2.bad]]):=by
 refine obj_of Try.func31 rfl Try.ntmps31 (le_ rfl) ?_
 refine Q0<|G0 rfl<|sQ (dAs rfl) rfl<|j0<|Q0<|G0 rfl<|sQ (dMv rfl) rfl<|V1 fun r_3 e_4=>J2 [0] ent28 rfl (W0 K _ _ _) e_4 rfl (.s rfl<|.s rfl .nil) rfl fun _=>sQ (dAs rfl) rfl<|j0<|Q0<|G0 rfl<|sQ (dMv rfl) rfl<|sQ (dEq rfl rfl) rfl<|sQ (dMv rfl) rfl<|V1 fun r_5 e_6=>J2 [0] ent28 rfl (W0 K _ _ _) e_6 rfl (.s rfl<|.s rfl .nil) rfl fun _=>sQ (dMv rfl) rfl<|V1 fun r_7 e_8=>J2 [0] ent28 rfl (W0 K _ _ _) e_8 rfl (.s rfl<|.s rfl .nil) rfl fun _=>sQ (G5 (az:=[Ab false,Ai .i64 (0:Int),Ai .i64 (0:Int),Ai .i64 (0:Int),Ai .i64 (0:Int),Ai .i64 (0:Int),Ai .i64 (0:Int),Ai .i64 (0:Int),Ai .i64 (0:Int),.lit (.slice none 0 0)]) Try.underlying46 zv46 pl46 (fun _ _=>.cons rfl (.cons rfl (.cons rfl (.cons rfl (.cons rfl (.cons rfl (.cons rfl (.cons rfl (.cons rfl (.cons rfl .nil)))))))))) (.c rfl rfl (cOne (oLit rfl)) rfl rfl (.c rfl rfl (cOne (oLit rfl)) rfl rfl (.c rfl rfl (cOne (oLit rfl)) rfl rfl .nil)))) rfl<|V5 (az:=[Ab false,Ai .i64 (0:Int),Ai .i64 (0:Int),Ai .i64 (0:Int),Ai .i64 (0:Int),Ai .i64 (0:Int),Ai .i64 (0:Int),Ai .i64 (0:Int),Ai .i64 (0:Int),.lit (.slice none 0 0)]) al46 (fun _ _=>.cons rfl (.cons rfl (.cons rfl (.cons rfl (.cons rfl (.cons rfl (.cons rfl (.cons rfl (.cons rfl (.cons rfl .nil)))))))))) rfl fun b_9=>V4 (j:=0) z46 rfl rfl rfl cAgg ⟨(oLit rfl),(oLit rfl),(oLit rfl),(oLit rfl),(oLit rfl),(oLit rfl),(oLit rfl),(oLit rfl),(oLit rfl),(oLit rfl),trivial⟩ rfl (le_ rfl)<|j0<|Q0<|G0 rfl<|sQ (dMv rfl) rfl<|V1 fun r_10 e_11=>J2 [1] ent28 rfl (W0 K _ _ _) e_11 rfl (.s rfl<|.s rfl .nil) rfl fun _=>sQ (dMv rfl) rfl<|V1 fun r_12 e_13=>J2 [0] ent28 rfl (W0 K _ _ _) e_13 rfl (.s rfl<|.s rfl .nil) rfl fun _=>sQ (dMv rfl) rfl<|V1 fun r_14 e_15=>J2 [0] ent28 rfl (W0 K _ _ _) e_15 rfl (.s rfl<|.s rfl .nil) rfl fun _=>sQ (G5 (az:=[Ai .i64 (0:Int),Ai .i64 (0:Int),Ai .i64 (0:Int)]) Try.underlying43 zv43 pl43 (fun _ _=>.cons rfl (.cons rfl (.cons rfl .nil))) (.c rfl rfl (cOne (oLit rfl)) rfl rfl (.c rfl rfl (cOne (oLit rfl)) rfl rfl (.c rfl rfl (cOne (oLit rfl)) rfl rfl .nil)))) rfl<|sQ (P2 fa46_3 rfl) rfl<|V4 (j:=1) z43 rfl rfl rfl cAgg ⟨(oLit rfl),(oLit rfl),(oLit rfl),trivial⟩ rfl (le_ rfl)<|j0<|Q0<|G0 rfl<|sQ (dMv rfl) rfl<|V1 fun r_16 e_17=>J2 [0] ent28 rfl (W0 K _ _ _) e_17 rfl (.s rfl<|.s rfl .nil) rfl fun _=>sQ (dMv rfl) rfl<|V1 fun r_18 e_19=>J2 [0] ent28 rfl (W0 K _ _ _) e_19 rfl (.s rfl<|.s rfl .nil) rfl fun _=>sQ (dMv rfl) rfl<|V1 fun r_20 e_21=>J2 [0] ent28 rfl (W0 K _ _ _) e_21 rfl (.s rfl<|.s rfl .nil) rfl fun _=>sQ (P2 fa46_4 rfl) rfl<|V4 (j:=1) z3 rfl rfl rfl (cOne (oLit rfl)) ⟨(oLit rfl),trivial⟩ rfl (le_ rfl)<|sQ (P2 fa46_5 rfl) rfl<|V4 (j:=1) z3 rfl rfl rfl (cOne (oLit rfl)) ⟨(oLit rfl),trivial⟩ rfl (le_ rfl)<|sQ (P2 fa46_6 rfl) rfl<|V4 (j:=1) z3 rfl rfl rfl (cOne (oLit rfl)) ⟨(oLit rfl),trivial⟩ rfl (le_ rfl)<|j0<|Q0<|G0 rfl<|sQ (dMv rfl) rfl<|sQ (dMv rfl) rfl<|V1 fun r_22 e_23=>J2 [0] ent28 rfl (W0 K _ _ _) e_23 rfl (.s rfl<|.s rfl .nil) rfl fun _=>V1 fun r_24 e_25=>J2 [0] ent30 rfl (ca K _ _ _) e_25 rfl (.s rfl<|.s rfl<|.s rfl .nil) rfl fun _=>V1 fun r_26 e_27=>sQ (j4 ent42 (V9 K _) e_27 (.s rfl .nil)) rfl<|sQ (P2 fa46_7 rfl) rfl<|V4 (j:=1) z44 rfl rfl rfl (cOne (oNz oFsl)) ⟨oNz oFsl,trivial⟩ rfl (le_ rfl)<|j0<|Q0<|G0 rfl<|sQ (dMv rfl) rfl<|sQ (dMv rfl) rfl<|sQ (dNc ptLit rfl) rfl<|sQ (P2 fa72_1 rfl) rfl<|sQ (Q5 (j:=0) g4 rfl rfl rfl) rfl<|sQ (dMv rfl) rfl<|Q4 (fun h_28=>?_) (fun h_28=>?_)
 ·refine sQu (j:=5) rfl rfl rfl h_28 rfl rfl<|sQu (j:=5) rfl rfl rfl h_28 rfl rfl<|sQ (W1 rfl h_28 rfl) rfl<|sQ (dMv rfl) rfl<|sQu (j:=9) rfl rfl rfl rfl rfl rfl<|sQu (j:=9) rfl rfl rfl rfl rfl rfl<|sQ (W1 rfl rfl rfl) rfl<|sQ (dNc ptLit rfl) rfl<|sQ (P2 fa72_1 rfl) rfl<|V4 (j:=0) z4 rfl rfl rfl (cOne (oLit rfl)) ⟨(oLit rfl),trivial⟩ rfl (le_ rfl)<|j0<|Q0<|G0 rfl<|sQ (J6 (j:=1) g46 z46 rfl rfl (le_ rfl)) rfl<|sQ (Vb ni46 rfl) rfl<|sQ (dAs rfl) rfl<|j0<|sPk [0] (H':=[.box b_2 [.lit (.string r_24.2.s),Ab true]]) rfl<|Q2 [] Try.func31 Try.results31 (rT rfl) ⟨(),rfl,rfl⟩
 ·refine sQg (j:=5) rfl rfl rfl (eq_false_of_ne_true h_28) rfl (dMv rfl) rfl<|sQg (j:=5) rfl rfl rfl (eq_false_of_ne_true h_28) rfl (dGt rfl rfl) rfl<|sQ (V0 rfl (eq_false_of_ne_true h_28) rfl) rfl<|sQ (dMv rfl) rfl<|Q4 (fun h_29=>?_) (fun h_29=>?_)
  ·refine sQu (j:=9) rfl rfl rfl (decide_eq_true h_29) rfl rfl<|sQu (j:=9) rfl rfl rfl (decide_eq_true h_29) rfl rfl<|sQ (W1 rfl (decide_eq_true h_29) rfl) rfl<|sQ (dNc ptLit rfl) rfl<|sQ (P2 fa72_1 rfl) rfl<|V4 (j:=0) z4 rfl rfl rfl (cOne (oLit rfl)) ⟨(oLit rfl),trivial⟩ rfl (le_ rfl)<|j0<|Q0<|G0 rfl<|sQ (J6 (j:=1) g46 z46 rfl rfl (le_ rfl)) rfl<|sQ (Vb ni46 rfl) rfl<|sQ (dAs rfl) rfl<|j0<|sPk [0] (H':=[.box b_2 [.lit (.string r_24.2.s),Ab true]]) rfl<|Q2 [] Try.func31 Try.results31 (rT rfl) ⟨(),rfl,rfl⟩
  ·refine V1 fun r_30 e_31=>sQg (j:=9) rfl rfl rfl (decide_eq_false h_29) rfl (qc ent37 (V8 K _) e_31 flLit (.g rfl (lendB 1 rfl (.k<|.k<|.k<|.k<|.k<|.k<|.k<|.k<|.k<|.x lendNz .n)) .nil)) rfl<|sQg (j:=9) rfl rfl rfl (decide_eq_false h_29) rfl (L8 rfl) rfl<|sQ (V0 rfl (decide_eq_false h_29) rfl) rfl<|sQ (dNc ptLit rfl) rfl<|sQ (P2 fa72_1 rfl) rfl<|V4 (j:=0) z4 rfl rfl rfl (cOne (oLit rfl)) ⟨(oLit rfl),trivial⟩ rfl (le_ rfl)<|j0<|Q0<|G0 rfl<|sQ (J6 (j:=1) g46 z46 rfl rfl (le_ rfl)) rfl<|sQ (Vb ni46 rfl) rfl<|sQ (dAs rfl) rfl<|j0<|sPk [0] (H':=[.box b_2 [.lit (.string r_24.2.s),Ab (!r_30)]]) rfl<|Q2 [] Try.func31 Try.results31 (rT rfl) ⟨(),rfl,rfl⟩
theorem slices_Clip_api_Node_api_Node_okN (K:Nat) (s_1:(List Node)):Pure Try.prog 41 [.nz (.fsl cNode s_1)] (slices_Clip_api_Node_api_Node K s_1) (fun r=>.nz (.fsl cNode r)):=by
 refine spec_of' Try.func41 rfl Try.ntmps41 (le_ rfl) ?_
 refine Q0<|G0 rfl<|sQ (dAs rfl) rfl<|j0<|Q0<|G0 rfl<|sQ (dMv rfl) rfl<|sQ (dMv rfl) rfl<|sQ (wb Try.underlying22 rfl) rfl<|sQ (dMv rfl) rfl<|sQ (wb Try.underlying22 rfl) rfl<|sQ (Wc Try.underlying22 z46 rfl rfl rfl (Int.natCast_nonneg _) (Int.le_refl _) (Int.le_refl _)) rfl<|sQ (dAs rfl) rfl<|j0<|Q2 [] Try.func41 Try.results41 (rT rfl) ⟨rfl,rfl⟩
theorem W9 (K:Nat) (all_1:(List Node)):Pure Try.prog 29 [.fsl (cIf 46 fun (x:Node)=>.agg (cNodeN.e x)) all_1] (k5 K all_1) (fun r=>.nz (.fsl cNode r)):=by
 refine spec_of' Try.func29 rfl Try.ntmps29 (le_ rfl) ?_
 refine Q0<|G0 rfl<|sQ (dAs rfl) rfl<|j0<|Q0<|G0 rfl<|sQ (dAs rfl) rfl<|j0<|Q0<|Q0<|G0 rfl<|sQ (dMv rfl) rfl<|sQ (P6 Try.underlying75 rfl) rfl<|sQ (dMv rfl) rfl<|j0<|pb 3 46 cNodeN rfl fun v_2=>G6 (k5.l0 K all_1) (fun ((xs_4,t_5):((List Node)×Int)) (v_3:Value)=>([(3,.sv v_3),(6,.fsl (cIf 46 fun (x:Node)=>.agg (cNodeN.e x)) all_1),(7,Ai .i64 (all_1.length:Int)),(8,Ai .i64 t_5)]:Fr)) (fun ((xs_4,t_5):((List Node)×Int)) (v_3:Value)=>([.own 46 cNodeN v_3 xs_4]:List Res)) (fun ((xs_4,t_5):((List Node)×Int)) (v_3:Value)=>([(3,.sv v_3),(6,.fsl (cIf 46 fun (x:Node)=>.agg (cNodeN.e x)) all_1),(7,Ai .i64 (all_1.length:Int)),(8,Ai .i64 t_5)]:Fr)) (fun ((xs_4,t_5):((List Node)×Int)) (v_3:Value)=>([.own 46 cNodeN v_3 xs_4]:List Res)) v_2 (fun _=>rfl) [] ⟨rfl,rfl,rfl,rfl,trivial⟩ rfl ?_ ?_
 ·rintro ⟨xs_4,t_5⟩ v_3
  refine Q0<|G0 rfl<|sQ (dMv rfl) rfl<|Jc cNode 0 18 rfl rfl (fun _=>rfl) rfl<|V1 fun r_10 e_11=>sQ (j4 ent41 (slices_Clip_api_Node_api_Node_okN K _) e_11 (.s rfl .nil)) rfl<|sQ (dAs rfl) rfl<|j0<|Q2 [0] Try.func29 Try.results29 (rT rfl) ⟨rfl,rfl⟩
 ·rintro m ⟨xs_4,t_5⟩ v_3 again_0 out_0
  refine Q0<|G0 rfl<|sQ (dLt rfl rfl) rfl<|j0<|Q0<|P5 rfl (fun h_6=>?_) (fun h_6=>?_)
  ·refine M3<|Q0<|f7<|Q0<|G0 rfl<|t6 fun h_7=>sQ (dIx Try.underlying75 z20 rfl rfl h_7 h_6) rfl<|sQ (dLd g20 rfl rfl) rfl<|sQ (dAs rfl) rfl<|j0<|G0 rfl<|sQ (dMv rfl) rfl<|sQ (dMv rfl) rfl<|sQ (dTA ni46 rfl) rfl<|sQ (dBS (c:=cNodeN) (xs:=([rd all_1 t_5]:List Node)) Try.underlying22 z46 P9 (.c rfl cAgg .nil) rfl) rfl<|t6 fun h_8=>sAp (j:=0) Try.underlying22 P9 rfl rfl rfl rfl h_8 rfl rfl fun v_9=>sQ (dAs rfl) rfl<|j0<|P4<|G0 rfl<|sQ (Q7 rfl rfl) rfl<|sQ (dMv rfl) rfl<|j0<|k4 (again_0 (xs_4++([rd all_1 t_5]:List Node),IntKind.wrap .i64 (t_5+1)) v_9) [0] ⟨rfl,rfl,rfl,rfl,trivial⟩ rfl
  ·refine J5 rfl<|k4 (out_0 (xs_4,t_5) v_3) [0] ⟨rfl,rfl,rfl,rfl,trivial⟩ rfl
theorem ma (K:Nat) (r_1:Pack_reader) (n_3:Int) (b_2:Nat):Hands Try.prog 30 [.lit (.pointer (some ⟨b_2,0,none⟩)),Ai .i64 n_3,.lit (.func (.func 31) #[] #[])] ([.box b_2 [.lit (.string r_1.s),Ab r_1.bad]]) (t4 K r_1 n_3) (fun (r:((List Node)×Pack_reader)) (_:Unit)=>.fsl (cIf 46 fun (x:Node)=>.agg (cNodeN.e x)) r.1) (fun (r:((List Node)×Pack_reader)) (_:Unit)=>[.box b_2 [.lit (.string r.2.s),Ab r.2.bad]]):=by
 refine obj_of Try.func30 rfl Try.ntmps30 (le_ rfl) ?_
 refine Q0<|G0 rfl<|sQ (dAs rfl) rfl<|j0<|Q0<|G0 rfl<|sQ (dAs rfl) rfl<|j0<|Q0<|pb 7 20 (cIf 46 fun (x:Node)=>.agg (cNodeN.e x)) rfl fun v_4=>G6 (t4.l0 K) (fun ((xs_6,c_7,c_8,n_9):((List Node)×ByteArray×Bool×Int)) (v_5:Value)=>([(0,.lit (.pointer (some ⟨b_2,0,none⟩))),(1,Ai .i64 n_9),(2,.lit (.func (.func 31) #[] #[])),(7,.sv v_5)]:Fr)) (fun ((xs_6,c_7,c_8,n_9):((List Node)×ByteArray×Bool×Int)) (v_5:Value)=>([.own 20 (cIf 46 fun (x:Node)=>.agg (cNodeN.e x)) v_5 xs_6,.box b_2 [.lit (.string c_7),Ab c_8]]:List Res)) (fun ((xs_6,c_7,c_8,n_9):((List Node)×ByteArray×Bool×Int)) (v_5:Value)=>([(0,.lit (.pointer (some ⟨b_2,0,none⟩))),(1,Ai .i64 n_9),(2,.lit (.func (.func 31) #[] #[])),(7,.sv v_5)]:Fr)) (fun ((xs_6,c_7,c_8,n_9):((List Node)×ByteArray×Bool×Int)) (v_5:Value)=>([.own 20 (cIf 46 fun (x:Node)=>.agg (cNodeN.e x)) v_5 xs_6,.box b_2 [.lit (.string c_7),Ab c_8]]:List Res)) v_4 (fun _=>rfl) [] ⟨rfl,rfl,rfl,rfl,trivial⟩ rfl ?_ ?_
 ·rintro ⟨xs_6,c_7,c_8,n_9⟩ v_5
  refine Q0<|G0 rfl<|sQ (dMv rfl) rfl<|sQ (dAs rfl) rfl<|j0<|sFz 0 rfl<|sUp 6 0 rfl rfl<|sPk [1] (H':=[.box b_2 [.lit (.string c_7),Ab c_8]]) rfl<|Q2 [] Try.func30 Try.results30 (rT rfl) ⟨(),rfl,rfl⟩
 ·rintro m ⟨xs_6,c_7,c_8,n_9⟩ v_5 again_0 out_0
  refine Q0<|Q0<|G0 rfl<|sQ (dMv rfl) rfl<|sQ (dGt rfl rfl) rfl<|sQ (dMv rfl) rfl<|Q4 (fun h_10=>?_) (fun h_10=>?_)
  ·refine sQg (j:=2) rfl rfl rfl (decide_eq_true h_10) rfl (dMv rfl) rfl<|sQg (j:=2) rfl rfl rfl (decide_eq_true h_10) rfl (dNc ptLit rfl) rfl<|sQg (j:=2) rfl rfl rfl (decide_eq_true h_10) rfl (P2 fa72_1 rfl) rfl<|sQg (j:=2) rfl rfl rfl (decide_eq_true h_10) rfl (Q5 (j:=1) g4 rfl rfl rfl) rfl<|sQg (j:=2) rfl rfl rfl (decide_eq_true h_10) rfl (L8 rfl) rfl<|sQ (W1 rfl (decide_eq_true h_10) rfl) rfl<|j0<|M6 rfl (fun h_11=>?_) (fun h_11=>?_)
   ·refine M3<|Q0<|f7<|G0 rfl<|sQ (dMv rfl) rfl<|sQ (dMv rfl) rfl<|sQ (dMv rfl) rfl<|V1 fun r_12 e_13=>J2 [1] ent31 rfl (mb K _ _) e_13 rfl (.s rfl .nil) rfl fun _=>sQ (dBS (c:=(cIf 46 fun (x:Node)=>.agg (cNodeN.e x))) (xs:=([r_12.1]:List Node)) Try.underlying75 z20 W8 (.c rfl (cOne oIfc) .nil) rfl) rfl<|t6 fun h_14=>sAp (j:=1) Try.underlying75 W8 rfl rfl rfl rfl h_14 rfl rfl fun v_15=>sQ (dAs rfl) rfl<|j0<|P4<|G0 rfl<|sQ (dMv rfl) rfl<|sQ (vb rfl rfl) rfl<|sQ (dAs rfl) rfl<|j0<|k4 (again_0 (xs_6++([r_12.1]:List Node),r_12.2.s,r_12.2.bad,IntKind.wrap .i64 (n_9-1)) v_15) [1,0] ⟨rfl,rfl,rfl,rfl,trivial⟩ rfl
   ·refine J5 rfl<|k4 (out_0 (xs_6,c_7,c_8,n_9) v_5) [0,0] ⟨rfl,rfl,rfl,rfl,trivial⟩ rfl
  ·refine sQu (j:=2) rfl rfl rfl (decide_eq_false h_10) rfl rfl<|sQu (j:=2) rfl rfl rfl (decide_eq_false h_10) rfl rfl<|sQu (j:=2) rfl rfl rfl (decide_eq_false h_10) rfl rfl<|sQu (j:=2) rfl rfl rfl (decide_eq_false h_10) rfl rfl<|sQu (j:=2) rfl rfl rfl (decide_eq_false h_10) rfl rfl<|sQ (V0 rfl (decide_eq_false h_10) rfl) rfl<|j0<|L7 rfl rfl<|J5 rfl<|k4 (out_0 (xs_6,c_7,c_8,n_9) v_5) [0,0] ⟨rfl,rfl,rfl,rfl,trivial⟩ rfl
theorem Lb (K:Nat) (s_1:ByteArray):Pure Try.prog 12 [.lit (.string s_1)] (M7 K s_1) (fun r=>.tup [.agg (cCertN.e r.1),Ai .i64 r.2]):=by
 refine spec_of' Try.func12 rfl Try.ntmps12 (le_ rfl) ?_
 refine Q0<|G0 rfl<|V5 (az:=[Ai .i64 (0:Int),.lit (.slice none 0 0)]) al24 (fun _ _=>.cons rfl (.cons rfl .nil)) rfl fun b_2=>sQ (dAs rfl) rfl<|j0<|Q0<|Q0<|G0 rfl<|sQ (dMv rfl) rfl<|sQ (J9 Try.underlying9 rfl) rfl<|sQ (dGt rfl rfl) rfl<|j0<|P5 rfl (fun h_3=>?_) (fun h_3=>?_)
 ·refine Q0<|G0 rfl<|sQ (G5 (az:=[Ai .i64 (0:Int),.lit (.slice none 0 0)]) Try.underlying24 zv24 pl24 (fun _ _=>.cons rfl (.cons rfl .nil)) (.nil)) rfl<|V4 (j:=0) z24 rfl rfl rfl cAgg ⟨(oLit rfl),(oLit rfl),trivial⟩ rfl (le_ rfl)<|sQ (dAs rfl) rfl<|j0<|Pc 0 1 (.nz (.fsl cNode [])) rfl rfl (fun Z w=>nil_fsl cNode (fun b=>Z b∧NoFz w b) w)<|k7 [0] Try.func12 Try.results12 (rC (j:=0) g24 z24 rfl rfl rfl) (rT rfl) ⟨rfl,rfl⟩
 ·refine M3<|Q0<|G0 rfl<|sQ (dMv rfl) rfl<|V1 fun r_4 e_5=>sQ (j4 ent27 (strings_CutPrefix_ok K _ _) e_5 (.s rfl<|.s rfl .nil)) rfl<|sQ (dMv rfl) rfl<|sQ (dX rfl rfl) rfl<|sQ (dX rfl rfl) rfl<|sQ (dAs rfl) rfl<|sQ (dAs rfl) rfl<|j0<|Q0<|G0 rfl<|sQ (dMv rfl) rfl<|sQ (dMv rfl) rfl<|sQ (L8 rfl) rfl<|sQ (G5 (az:=[.lit (.string (⟨#[]⟩:ByteArray)),Ab false]) Try.underlying72 zv72 pl72 (fun _ _=>.cons rfl (.cons rfl .nil)) (.c rfl rfl (cOne (oLit rfl)) rfl rfl (.c rfl rfl (cOne (oLit rfl)) rfl rfl .nil))) rfl<|Mc rfl cAgg rfl fun b_6=>sQ (dAs rfl) rfl<|j0<|Q0<|G0 rfl<|sQ (dMv rfl) rfl<|V1 fun r_7 e_8=>J2 [0] ent28 rfl (W0 K _ _ _) e_8 rfl (.s rfl<|.s rfl .nil) rfl fun _=>sQ (G5 (az:=[Ai .i64 (0:Int),.lit (.slice none 0 0)]) Try.underlying24 zv24 pl24 (fun _ _=>.cons rfl (.cons rfl .nil)) (.c rfl rfl (cOne (oLit rfl)) rfl rfl .nil)) rfl<|V5 (az:=[Ai .i64 (0:Int),.lit (.slice none 0 0)]) al24 (fun _ _=>.cons rfl (.cons rfl .nil)) rfl fun b_9=>V4 (j:=0) z24 rfl rfl rfl cAgg ⟨(oLit rfl),(oLit rfl),trivial⟩ rfl (le_ rfl)<|j0<|Q0<|G0 rfl<|sQ (dMv rfl) rfl<|V1 fun r_10 e_11=>J2 [1] ent28 rfl (W0 K _ _ _) e_11 rfl (.s rfl<|.s rfl .nil) rfl fun _=>sQ (dAs rfl) rfl<|j0<|Q0<|zb (fun (c_12:Bool) (_:Unit)=>([(2,.lit (.pointer (some ⟨b_2,0,none⟩))),(6,.lit (.pointer (some ⟨b_6,0,none⟩))),(7,.lit (.pointer (some ⟨b_9,0,none⟩))),(8,Ai .i64 r_10.1)]:Fr)) (fun (c_12:Bool) (_:Unit)=>([.box b_2 [Ai .i64 (0:Int),.lit (.slice none 0 0)],.box b_6 [.lit (.string r_10.2.s),Ab c_12],.box b_9 [Ai .i64 r_7.1,.lit (.slice none 0 0)]]:List Res)) ?_ ?_
  ·rintro c_12 _
   refine Q0<|G0 rfl<|sQ (dMv rfl) rfl<|sQ (dMv rfl) rfl<|V1 fun r_15 e_16=>J2 [1] ent30 rfl (ma K _ _ _) e_16 rfl (.s rfl<|.s rfl<|.s rfl .nil) rfl fun _=>V1 fun r_17 e_18=>sQ (j4 ent29 (W9 K _) e_18 (.s rfl .nil)) rfl<|sQ (P2 fa24_1 rfl) rfl<|V4 (j:=2) z22 rfl rfl rfl (cOne (oNz oFsl)) ⟨oNz oFsl,trivial⟩ rfl (le_ rfl)<|j0<|Q0<|Q0<|G0 rfl<|sQ (dMv rfl) rfl<|sQ (dNc ptLit rfl) rfl<|sQ (P2 fa72_1 rfl) rfl<|sQ (Q5 (j:=0) g4 rfl rfl rfl) rfl<|sQ (dMv rfl) rfl<|Q4 (fun h_19=>?_) (fun h_19=>?_)
   ·refine sQu (j:=4) rfl rfl rfl h_19 rfl rfl<|sQu (j:=4) rfl rfl rfl h_19 rfl rfl<|sQu (j:=4) rfl rfl rfl h_19 rfl rfl<|sQu (j:=4) rfl rfl rfl h_19 rfl rfl<|sQu (j:=4) rfl rfl rfl h_19 rfl rfl<|sQ (W1 rfl h_19 rfl) rfl<|j0<|L6 rfl rfl<|Q0<|G0 rfl<|sQ (G5 (az:=[Ai .i64 (0:Int),.lit (.slice none 0 0)]) Try.underlying24 zv24 pl24 (fun _ _=>.cons rfl (.cons rfl .nil)) (.nil)) rfl<|V4 (j:=1) z24 rfl rfl rfl cAgg ⟨(oLit rfl),(oLit rfl),trivial⟩ rfl (le_ rfl)<|sQ (dAs rfl) rfl<|j0<|Pc 1 1 (.nz (.fsl cNode [])) rfl rfl (fun Z w=>nil_fsl cNode (fun b=>Z b∧NoFz w b) w)<|k7 [2,1,0] Try.func12 Try.results12 (rC (j:=1) g24 z24 rfl rfl rfl) (rT rfl) ⟨rfl,rfl⟩
   ·refine sQg (j:=4) rfl rfl rfl (eq_false_of_ne_true h_19) rfl (dMv rfl) rfl<|sQg (j:=4) rfl rfl rfl (eq_false_of_ne_true h_19) rfl (dNc ptLit rfl) rfl<|sQg (j:=4) rfl rfl rfl (eq_false_of_ne_true h_19) rfl (P2 fa72_0 rfl) rfl<|sQg (j:=4) rfl rfl rfl (eq_false_of_ne_true h_19) rfl (Q5 (j:=0) g9 rfl rfl rfl) rfl<|sQg (j:=4) rfl rfl rfl (eq_false_of_ne_true h_19) rfl (jd rfl rfl) rfl<|sQ (V0 rfl (eq_false_of_ne_true h_19) rfl) rfl<|j0<|P5 rfl (fun h_20=>?_) (fun h_20=>?_)
    ·refine Q0<|G0 rfl<|sQ (G5 (az:=[Ai .i64 (0:Int),.lit (.slice none 0 0)]) Try.underlying24 zv24 pl24 (fun _ _=>.cons rfl (.cons rfl .nil)) (.nil)) rfl<|V4 (j:=1) z24 rfl rfl rfl cAgg ⟨(oLit rfl),(oLit rfl),trivial⟩ rfl (le_ rfl)<|sQ (dAs rfl) rfl<|j0<|Pc 1 1 (.nz (.fsl cNode [])) rfl rfl (fun Z w=>nil_fsl cNode (fun b=>Z b∧NoFz w b) w)<|k7 [2,1,0] Try.func12 Try.results12 (rC (j:=1) g24 z24 rfl rfl rfl) (rT rfl) ⟨rfl,rfl⟩
    ·refine M3<|Q0<|G0 rfl<|sQ (J6 (j:=2) g24 z24 rfl rfl (le_ rfl)) rfl<|V4 (j:=1) z24 rfl rfl rfl cAgg ⟨(oLit rfl),oNz oFsl,trivial⟩ rfl (le_ rfl)<|sQ (dAs rfl) rfl<|j0<|k7 [2,1,0] Try.func12 Try.results12 (rC (j:=1) g24 z24 rfl rfl rfl) (rT rfl) ⟨rfl,rfl⟩
  ·intro join_12
   refine G0 rfl<|sQ (dMv rfl) rfl<|sQ (dMv rfl) rfl<|sQ (dNc ptLit rfl) rfl<|sQ (P2 fa72_1 rfl) rfl<|sQ (Q5 (j:=0) g4 rfl rfl rfl) rfl<|sQ (dMv rfl) rfl<|Q4 (fun h_14=>?_) (fun h_14=>?_)
   ·refine sQu (j:=5) rfl rfl rfl h_14 rfl rfl<|sQu (j:=5) rfl rfl rfl h_14 rfl rfl<|sQ (W1 rfl h_14 rfl) rfl<|sQ (dNc ptLit rfl) rfl<|sQ (P2 fa72_1 rfl) rfl<|V4 (j:=0) z4 rfl rfl rfl (cOne (oLit rfl)) ⟨(oLit rfl),trivial⟩ rfl (le_ rfl)<|j0<|k4 (join_12 true ()) [2,0,0] ⟨rfl,rfl,rfl,rfl,trivial⟩ rfl
   ·refine sQg (j:=5) rfl rfl rfl (eq_false_of_ne_true h_14) rfl (dMv rfl) rfl<|sQg (j:=5) rfl rfl rfl (eq_false_of_ne_true h_14) rfl (dGt rfl rfl) rfl<|sQ (V0 rfl (eq_false_of_ne_true h_14) rfl) rfl<|sQ (dNc ptLit rfl) rfl<|sQ (P2 fa72_1 rfl) rfl<|V4 (j:=0) z4 rfl rfl rfl (cOne (oLit rfl)) ⟨(oLit rfl),trivial⟩ rfl (le_ rfl)<|j0<|k4 (join_12 (decide (65536<r_10.1)) ()) [2,0,0] ⟨rfl,rfl,rfl,rfl,trivial⟩ rfl
end Go.Proofs.Ytokccimmgilciaa

namespace Go.Proofs.Ytokccimmgilciaa
open S Go.RowKit
set_option linter.unusedVariables false
set_option maxRecDepth 100000
set_option maxHeartbeats 4000000
theorem ent35:Ent Try.prog 35:=fun _ _=>by kernel_rfl
theorem ent16:Ent Try.prog 16:=fun _ _=>by kernel_rfl
def spInts.l0 (k:Nat):Nat→Int→Option Int
 | 0,_=>none
 | m+1,i=>if i<(k:Int) then if 0≤i then spInts.l0 k m (IntKind.wrap .i64 (i+1)) else none else some i
def spInts (K k:Nat):Option Unit:=(spInts.l0 k K 0).bind fun _=>some ()
theorem spInts_ok (K:Nat) {u:Value} {sh:List (List Nat)} {hp:Nat→Value} {hk:Nat→Nat→Value} {v:Value} {k:Nat} (hS:∀ Z w F,(Res.shp u sh hp hk).h Z w F→Sh1 w F v 1 k (fun _ _ v=>IntV v)) :
  Hands Try.prog 35 [.sv v] [.shp u sh hp hk] (spInts K k) (fun (_:Unit) (_:Unit)=>.any) (fun (_:Unit) (_:Unit)=>[.shp u sh hp hk]):=by
 refine obj_of Try.func35 rfl Try.ntmps35 (le_ rfl) ?_
 refine Q0<|G0 rfl<|sQ (dAs rfl) rfl<|j0<|sLo (spInts.l0 k) (fun (i_4:Int) (_:Unit)=>([(0,.sv v),(2,Ai .i64 i_4)]:Fr)) (fun _ _=>([.shp u sh hp hk]:List Res)) () (fun _=>rfl) [] ⟨rfl,rfl,trivial⟩ rfl ?_ ?_
 ·rintro i_4 _
  refine sPk [0] (H':=[.shp u sh hp hk]) rfl<|jc Try.func35 Try.results35 ⟨(),rfl,rfl⟩
 ·rintro m i_4 _ again_0 out_0
  refine Q0<|Q0<|G0 rfl<|sQ (dMv rfl) rfl<|sQ (dMv rfl) rfl<|sQ (mc (j:=0) hS rfl Try.underlying47 rfl) rfl<|sQ (dLt rfl rfl) rfl<|j0<|P5 rfl (fun h_5=>?_) (fun h_5=>?_)
  ·refine M3<|Q0<|f7<|G0 rfl<|sQ (dMv rfl) rfl<|sQ (dMv rfl) rfl<|sQ (dMv rfl) rfl<|sQ (dMv rfl) rfl<|t6 fun h_6=>sQ (ga (j:=0) hS rfl Try.underlying47 z3 rfl rfl h_6 h_5) rfl<|sQ (Wa (j:=0) (q:=0) (a:=.anyI) i_4 hS rfl g3 rfl rfl rfl h_6 h_5 (fun _ _ _ h=>h)) rfl<|sQ (Wd rfl rfl) rfl<|sQ (ga (j:=0) hS rfl Try.underlying47 z3 rfl rfl h_6 h_5) rfl<|Qc (j:=0) (q:=0) i_4 hS rfl shp_W shp_N z3 rfl rfl rfl h_6 h_5 (fun _ h=>h) rfl (fun _ _ _ h=>h)<|j0<|P4<|G0 rfl<|sQ (dMv rfl) rfl<|sQ (Q7 rfl rfl) rfl<|sQ (dAs rfl) rfl<|j0<|k4 (again_0 (IntKind.wrap .i64 (i_4+1)) ()) [0] ⟨rfl,rfl,trivial⟩ rfl
  ·refine J5 rfl<|k4 (out_0 i_4 ()) [0] ⟨rfl,rfl,trivial⟩ rfl
def spCert.l1 (K:Nat) (ps:List Nat):Nat→Int→Option Int
 | 0,_=>none
 | m+1,j=>if j<(ps.length:Int) then if 0≤j then (spInts K (rd ps j)).bind fun _=>spCert.l1 K ps m (IntKind.wrap .i64 (j+1)) else none else some j
def spCert.l0 (K:Nat) (sh:List (List Nat)):Nat→Int→Option Int
 | 0,_=>none
 | m+1,i=>if i<(sh.length:Int) then if 0≤i then (spCert.l1 K (rd sh i) K 0).bind fun _=>spCert.l0 K sh m (IntKind.wrap .i64 (i+1)) else none else some i
def spCert (K:Nat) (sh:List (List Nat)):Option Unit:=(spCert.l0 K sh K 0).bind fun _=>some ()
theorem spCert_ok (K:Nat) (root:Int) {u:Value} {sh:List (List Nat)} {hp:Nat→Value} {hk:Nat→Nat→Value} :
  Hands Try.prog 16 [.agg [Ai .i64 root,.sv u]] [.shp u sh hp hk] (spCert K sh) (fun (_:Unit) (_:Unit)=>.any) (fun (_:Unit) (_:Unit)=>[]):=by
 refine obj_of Try.func16 rfl Try.ntmps16 (le_ rfl) ?_
 refine Q0<|G0 rfl<|Mc rfl cAgg rfl fun b=>j0<|Q0<|G0 rfl<|sQ (dAs rfl) rfl<|j0<|sLo (spCert.l0 K sh) (fun (i:Int) (_:Unit)=>([(1,.lit (.pointer (some ⟨b,0,none⟩))),(2,Ai .i64 i)]:Fr)) (fun _ _=>([.box b [Ai .i64 root,.sv u],.shp u sh hp hk]:List Res)) () (fun _=>rfl) [] ⟨rfl,rfl,trivial⟩ rfl ?_ ?_
 ·rintro i _
  refine sPk [] (H':=[]) rfl<|jc Try.func16 Try.results16 ⟨(),rfl,rfl⟩
 ·rintro m i _ again_0 out_0
  refine Q0<|Q0<|G0 rfl<|sQ (dMv rfl) rfl<|sQ (P2 fa24_1 rfl) rfl<|sQ (Q5 (j:=0) g22 rfl rfl rfl) rfl<|sQ (mc (j:=1) shp_1 rfl Try.underlying22 rfl) rfl<|sQ (dLt rfl rfl) rfl<|j0<|P5 rfl (fun h_1=>?_) (fun h_1=>?_)
  ·refine M3<|sIf fun h_0=>Q0<|f7<|Q0<|Q0<|G0 rfl<|sQ (dAs rfl) rfl<|j0<|sLo (spCert.l1 K (rd sh i)) (fun (j:Int) (_:Unit)=>([(1,.lit (.pointer (some ⟨b,0,none⟩))),(2,Ai .i64 i),(3,Ai .i64 j)]:Fr)) (fun _ _=>([.box b [Ai .i64 root,.sv u],.shp u sh hp hk]:List Res)) () (fun _=>rfl) [] ⟨rfl,rfl,rfl,trivial⟩ rfl ?_ ?_
   ·rintro j _
    refine G8 12 mixed rfl (by kernel_rfl) (by kernel_rfl) (by kernel_rfl) (.c (.r (P2 fa24_1 rfl)) rfl rfl<|.c (.r (Q5 (j:=0) g22 rfl rfl rfl)) rfl rfl<|.c (.r (dMv rfl)) rfl rfl<|.c (.r (P2 fa24_1 rfl)) rfl rfl<|.c (.r (Q5 (j:=0) g22 rfl rfl rfl)) rfl rfl<|.c (.r (dMv rfl)) rfl rfl<|.c (.r (ga (j:=1) shp_1 rfl Try.underlying22 z46 rfl rfl h_0 h_1)) rfl rfl<|.c (.r (Wb fa46_6 rfl)) rfl rfl<|.c (.r (Wa (j:=1) (q:=8) (a:=.anyI) i shp_1 rfl g3 rfl rfl rfl h_0 h_1 (fun _ _ _ h=>h.1 rfl))) rfl rfl<|.c (.r (td rfl rfl)) rfl rfl<|.c (.r (ga (j:=1) shp_1 rfl Try.underlying22 z46 rfl rfl h_0 h_1)) rfl rfl<|.c (.r (Wb fa46_6 rfl)) rfl rfl .n) rfl<|Qc (j:=1) (q:=8) i shp_1 rfl shp_W shp_N z3 rfl rfl rfl h_0 h_1 (fun _ h=>h.1 rfl) rfl (fun _ _ _ h=>h)<|j0<|P4<|G0 rfl<|sQ (dMv rfl) rfl<|sQ (Q7 rfl rfl) rfl<|sQ (dAs rfl) rfl<|j0<|k4 (again_0 (IntKind.wrap .i64 (i+1)) ()) [0,0] ⟨rfl,rfl,trivial⟩ rfl
   ·rintro m j _ again_1 out_1
    refine Q0<|Q0<|G0 rfl<|sQ (dMv rfl) rfl<|sQ (P2 fa24_1 rfl) rfl<|sQ (Q5 (j:=0) g22 rfl rfl rfl) rfl<|sQ (dMv rfl) rfl<|sQ (ga (j:=1) shp_1 rfl Try.underlying22 z46 rfl rfl h_0 h_1) rfl<|sQ (Wb fa46_7 rfl) rfl<|sQ (Wa (j:=1) (q:=9) (a:=.sv (hp i.toNat)) i shp_1 rfl g44 rfl rfl rfl h_0 h_1 (fun _ _ _ h=>h.2 rfl)) rfl<|sQ (mc (j:=1) (shp_2 h_0 h_1) rfl Try.underlying44 rfl) rfl<|sQ (dLt rfl rfl) rfl<|j0<|P5 rfl (fun g_1=>?_) (fun g_1=>?_)
    ·refine M3<|sIf fun g_0=>Q0<|f7<|Q0<|G0 rfl<|sQ (P2 fa24_1 rfl) rfl<|sQ (Q5 (j:=0) g22 rfl rfl rfl) rfl<|sQ (dMv rfl) rfl<|sQ (ga (j:=1) shp_1 rfl Try.underlying22 z46 rfl rfl h_0 h_1) rfl<|sQ (Wb fa46_7 rfl) rfl<|sQ (Wa (j:=1) (q:=9) (a:=.sv (hp i.toNat)) i shp_1 rfl g44 rfl rfl rfl h_0 h_1 (fun _ _ _ h=>h.2 rfl)) rfl<|sQ (dMv rfl) rfl<|sQ (ga (j:=1) (shp_2 h_0 h_1) rfl Try.underlying44 z49 rfl rfl g_0 g_1) rfl<|sQ (Wb fa49_2 rfl) rfl<|sQ (Wa (j:=1) (q:=2) (a:=.sv (hk i.toNat j.toNat)) j (shp_2 h_0 h_1) rfl g47 rfl rfl rfl g_0 g_1 (fun _ _ _ h=>h.2 rfl)) rfl<|V1 fun _ e_1=>J2 [1] ent35 rfl (spInts_ok K (shp_3 h_0 h_1 g_0 g_1)) e_1 rfl (.s rfl .nil) rfl fun _=>j0<|?_
     refine G8 20 mixed rfl (by kernel_rfl) (by kernel_rfl) (by kernel_rfl) (.c (.r (P2 fa24_1 rfl)) rfl rfl<|.c (.r (Q5 (j:=1) g22 rfl rfl rfl)) rfl rfl<|.c (.r (dMv rfl)) rfl rfl<|.c (.r (ga (j:=0) shp_1 rfl Try.underlying22 z46 rfl rfl h_0 h_1)) rfl rfl<|.c (.r (Wb fa46_7 rfl)) rfl rfl<|.c (.r (Wa (j:=0) (q:=9) (a:=.sv (hp i.toNat)) i shp_1 rfl g44 rfl rfl rfl h_0 h_1 (fun _ _ _ h=>h.2 rfl))) rfl rfl<|.c (.r (dMv rfl)) rfl rfl<|.c (.r (P2 fa24_1 rfl)) rfl rfl<|.c (.r (Q5 (j:=1) g22 rfl rfl rfl)) rfl rfl<|.c (.r (dMv rfl)) rfl rfl<|.c (.r (ga (j:=0) shp_1 rfl Try.underlying22 z46 rfl rfl h_0 h_1)) rfl rfl<|.c (.r (Wb fa46_7 rfl)) rfl rfl<|.c (.r (Wa (j:=0) (q:=9) (a:=.sv (hp i.toNat)) i shp_1 rfl g44 rfl rfl rfl h_0 h_1 (fun _ _ _ h=>h.2 rfl))) rfl rfl<|.c (.r (dMv rfl)) rfl rfl<|.c (.r (ga (j:=0) (shp_2 h_0 h_1) rfl Try.underlying44 z49 rfl rfl g_0 g_1)) rfl rfl<|.c (.r (Wb fa49_0 rfl)) rfl rfl<|.c (.r (Wa (j:=0) (q:=0) (a:=.anyI) j (shp_2 h_0 h_1) rfl g3 rfl rfl rfl g_0 g_1 (fun _ _ _ h=>h.1 rfl))) rfl rfl<|.c (.r (td rfl rfl)) rfl rfl<|.c (.r (ga (j:=0) (shp_2 h_0 h_1) rfl Try.underlying44 z49 rfl rfl g_0 g_1)) rfl rfl<|.c (.r (Wb fa49_0 rfl)) rfl rfl .n) rfl<|Qc (j:=0) (q:=0) j (shp_2 h_0 h_1) rfl shp_W shp_N z3 rfl rfl rfl g_0 g_1 (fun _ h=>h.1 rfl) rfl (fun _ _ _ h=>h)<|j0<|P4<|G0 rfl<|sQ (dMv rfl) rfl<|sQ (Q7 rfl rfl) rfl<|sQ (dAs rfl) rfl<|j0<|k4 (again_1 (IntKind.wrap .i64 (j+1)) ()) [1,0] ⟨rfl,rfl,rfl,trivial⟩ rfl
    ·refine J5 rfl<|k4 (out_1 j ()) [0,0] ⟨rfl,rfl,rfl,trivial⟩ rfl
  ·refine J5 rfl<|k4 (out_0 i ()) [0,0] ⟨rfl,rfl,trivial⟩ rfl
end Go.Proofs.Ytokccimmgilciaa

namespace Go.Proofs.Ytokccimmgilciaa
open S Go.RowKit
set_option linter.unusedVariables false
set_option maxRecDepth 100000
set_option maxHeartbeats 4000000
def shOf (xs:List Node):List (List Nat):=xs.map fun x=>x.Picks.map fun p=>p.Kids.length
def hpOf (w:World) (u:Value) (i:Nat):Value:=cellAt w u (i*10+9)
def hkOf (w:World) (u:Value) (i j:Nat):Value:=cellAt w (hpOf w u i) (j*3+2)
theorem node_at {w:World} {F:Nat→Prop} {u:Value} {xs:List Node} (h:(AV.fsl cNode xs).p F w u) {i:Nat} {x:Node} (hx:xs[i]?=some x):(AV.fsl cPick x.Picks).p F w (hpOf w u i):=by
 obtain ⟨A,m,e,_,hel⟩:=h
 obtain ⟨a,ea,hF,vs,h1,h2⟩:=hel i x hx
 obtain ⟨v,hv,hp⟩:=h1.get (i:=9) (a:=.fsl cPick x.Picks) rfl
 have h3:=h2 9 v hv
 rw [add_add] at h3
 subst ea
 rw [e,show hpOf w (.slice (some a) xs.length m) i=v from cellAt_of h3]
 exact hp
theorem pick_at {w:World} {F:Nat→Prop} {u:Value} {xs:List Pick} (h:(AV.fsl cPick xs).p F w u) {i:Nat} {x:Pick} (hx:xs[i]?=some x):(AV.fsl (cI .i64) x.Kids).p F w (cellAt w u (i*3+2)):=by
 obtain ⟨A,m,e,_,hel⟩:=h
 obtain ⟨a,ea,hF,vs,h1,h2⟩:=hel i x hx
 obtain ⟨v,hv,hp⟩:=h1.get (i:=2) (a:=.fsl (cI .i64) x.Kids) rfl
 have h3:=h2 2 v hv
 rw [add_add] at h3
 subst ea
 have h4:w.cell? (a.add (i*3+2))=some v:=h3
 rw [e,cellAt_of h4]
 exact hp
theorem sl_of {T:Type} {c:Co T} {xs:List T} {F:Nat→Prop} {w:World} {v:Value} (h:(AV.fsl c xs).p F w v):IsSl v:=by
 obtain ⟨A,m,e,_⟩:=h
 exact ⟨A,_,m,e⟩
theorem shp_of {w:World} {F:Nat→Prop} {u:Value} {xs:List Node} (h:(AV.fsl cNode xs).p F w u):Shp w F u (shOf xs) (hpOf w u) (hkOf w u):=by
 refine ⟨?_,?_,?_⟩
 ·have:=fsl_sh1 (cell:=fun i q v=>(q=8→IntV v)∧(q=9→v=hpOf w u i∧IsSl (hpOf w u i))) h fun A m a e ea i x hx vs h1 h3 q v hv=>by
   refine ⟨fun e8=>?_,fun e9=>?_⟩
   ·subst e8
    obtain ⟨v',hv',hp⟩:=h1.get (i:=8) (a:=Ai .i64 x.Rank) rfl
    rw [hv] at hv';cases hv'
    exact ⟨x.Rank,hp⟩
   ·subst e9
    subst ea
    have e1:hpOf w u i=v:=by rw [e];exact cellAt_of (h3 9 v hv)
    exact ⟨e1.symm,sl_of (node_at h hx)⟩
  rw [show (shOf xs).length=xs.length by simp [shOf]]
  exact this
 ·intro i ps hps
  obtain ⟨x,hx,rfl⟩:∃ x,xs[i]?=some x∧(x.Picks.map fun p=>p.Kids.length)=ps:=by
   simpa [shOf] using hps
  have hn:=node_at h hx
  have:=fsl_sh1 (cell:=fun j q v=>(q=0→IntV v)∧(q=2→v=hkOf w u i j∧IsSl (hkOf w u i j))) hn fun A m a e ea j p hj vs h1 h3 q v hv=>by
   refine ⟨fun e8=>?_,fun e9=>?_⟩
   ·subst e8
    obtain ⟨v',hv',hp⟩:=h1.get (i:=0) (a:=Ai .i64 p.At) rfl
    rw [hv] at hv';cases hv'
    exact ⟨p.At,hp⟩
   ·subst e9
    subst ea
    have e1:hkOf w u i j=v:=by unfold hkOf;rw [e];exact cellAt_of (h3 2 v hv)
    exact ⟨e1.symm,sl_of (pick_at hn hj)⟩
  rw [List.length_map]
  exact this
 ·intro i ps hps j k hk
  obtain ⟨x,hx,rfl⟩:∃ x,xs[i]?=some x∧(x.Picks.map fun p=>p.Kids.length)=ps:=by
   simpa [shOf] using hps
  obtain ⟨p,hj,rfl⟩:∃ p,x.Picks[j]?=some p∧p.Kids.length=k:=by
   simpa using hk
  have hn:=pick_at (node_at h hx) hj
  exact fsl_sh1 (c:=cI .i64) (cell:=fun _ _ v=>IntV v) hn fun A m a e ea k z hz vs h1 h3 q v hv=>by
   cases h1 with
   | cons h1 h2 =>
    cases h2
    cases q with
    | zero=>simp at hv;subst hv;exact ⟨z,h1⟩
    | succ q=>simp at hv
section
variable {P:Program} {f:FuncId} {n:Nat} {ops:Array Oper} {l:List Oper} {k:List Item} {fr:Fr} {H:List Res} {ρ R:Type} {x:Option ρ} {X:ρ→Option R} {K:R→AV→List Res→Prop}
theorem toShpL {u:Value} {xs:List Node} (j:Nat) (hj:H[j]?=some (.blob cNode u xs)) (h:∀ hp hk,SimL P f n ops l k fr (H.set j (.shp u (shOf xs) hp hk)) x X K):SimL P f n ops l k fr H x X K:=by
 intro is hs q hq w0 F0 Z0 w F Z tmps hn hi hf
 obtain ⟨F',hi',_⟩:=hi.turn (w':=w) (r':=.shp u (shOf xs) (hpOf w u) (hkOf w u)) hj fun G1 h1 _=>⟨G1,Step.refl _ _,⟨shp_of h1.1,h1.2⟩,fun _ x=>.inl x⟩
 exact h _ _ is hs q hq w0 F0 Z0 w F' Z tmps hn hi' hf
theorem lendCert {root:Int} {u:Value} {xs:List Node} (j:Nat) (hj:H[j]?=some (.blob cNode u xs)) {Z F:Nat→Prop} {w:World} {v:Value} (hH:HAll H Z w F) (h:(AV.agg [Ai .i64 root,.sv u]).p Z w v):(AV.agg (cCert.e ⟨root,xs⟩)).p (fun b=>Z b∨F b) w v:=by
 obtain ⟨vs,e,h1⟩:=h
 cases h1 with | cons a h1=>cases h1 with | cons b h1 =>
 cases h1
 exact ⟨_,e,.cons a (.cons (by rw [b.1];exact blob_fsl hj hH) .nil)⟩
theorem get_split (r:Cert×Int) (w:World) (G:Nat→Prop) (v:Value) (h:(AV.tup [.agg (cCertN.e r.1),Ai .i64 r.2]).p G w v):∃ u,(AV.tup [.agg [Ai .i64 r.1.Root,.sv u],Ai .i64 r.2]).p (fun _=>False) w v∧HAll [.blob cNode u r.1.Nodes] (fun _=>False) w G:=by
 obtain ⟨vs,rfl,h⟩:=h
 cases h with | cons a h=>cases h with | cons b h =>
 cases h
 obtain ⟨ws,rfl,a⟩:=a
 cases a with | cons a1 a=>cases a with | cons a2 a =>
 cases a
 exact ⟨_,⟨_,rfl,.cons ⟨_,rfl,.cons a1 (.cons ⟨rfl,sl_of (AV.nz_out a2)⟩ .nil)⟩ (.cons b .nil)⟩,nz_blob a2⟩
end
def G7 (K:Nat) (c_1:Cert) (s_2:ByteArray):Option Bool:=(M1 K c_1).bind fun r_3=>(j6 K (⟨r_3.Root,r_3.Nodes⟩:Cert)).bind fun r_6=>(Q1 K c_1).bind fun r_8=>(M7 K s_2).bind fun r_10=>(L5 K s_2).bind fun r_13=>if r_6.1≠r_8.1 then some false else (M5 K r_6.2).bind fun r_17=>if r_17≠r_8.2 then some false else (Q3 K (⟨r_10.1.Root,r_10.1.Nodes⟩:Cert) (⟨r_13.1.Root,r_13.1.Nodes⟩:Cert)).bind fun r_20=>if (!r_20)=true then some false else (M5 K r_10.2).bind fun r_23=>if r_23≠r_13.2 then some false else (Q3 K (⟨r_3.Root,r_3.Nodes⟩:Cert) c_1).bind fun r_26=>if (!r_26)=true then some false else (spCert K (shOf r_10.1.Nodes)).bind fun r_29=>(M7 K s_2).bind fun r_31=>(Q3 K (⟨r_31.1.Root,r_31.1.Nodes⟩:Cert) (⟨r_13.1.Root,r_13.1.Nodes⟩:Cert)).bind fun r_34=>if r_34=true then (P7 K).bind fun r_37=>some r_37 else some false
theorem M9 (K:Nat) (c_1:Cert) (s_2:ByteArray):Pure Try.prog 3 [.agg (cCert.e c_1),.lit (.string s_2)] (G7 K c_1 s_2) (fun r=>Ab r):=by
 refine spec_of' Try.func3 rfl Try.ntmps3 (le_ rfl) ?_
 refine Q0<|G0 rfl<|sQ (ja (az:=cCert.e c_1) rfl cAgg) rfl<|sQ (dAs rfl) rfl<|j0<|Q0<|G0 rfl<|sQ (G9 g24 z24 rfl (le_ rfl)) rfl<|V1 fun r_3 e_4=>sQ (j4 ent9 (y9 K _) e_4 (.s rfl .nil)) rfl<|V5 (az:=[Ai .i64 (0:Int),.lit (.slice none 0 0)]) al24 (fun _ _=>.cons rfl (.cons rfl .nil)) rfl fun b_5=>V4 (j:=0) z24 rfl rfl rfl cAgg ((cCert).one _) rfl (le_ rfl)<|j0<|Q0<|G0 rfl<|sQ (J6 (j:=0) g24 z24 rfl rfl (le_ rfl)) rfl<|V1 fun r_6 e_7=>sQ (j4 ent10 (qa K _) e_7 (.s rfl .nil)) rfl<|sQ (dMv rfl) rfl<|sQ (dX rfl rfl) rfl<|sQ (dX rfl rfl) rfl<|sQ (dAs rfl) rfl<|sQ (dAs rfl) rfl<|j0<|Q0<|G0 rfl<|sQ (G9 g24 z24 rfl (le_ rfl)) rfl<|V1 fun r_8 e_9=>sQ (j4 ent11 (ya K _) e_9 (.s rfl .nil)) rfl<|sQ (dMv rfl) rfl<|sQ (dX rfl rfl) rfl<|sQ (dX rfl rfl) rfl<|sQ (dAs rfl) rfl<|sQ (dAs rfl) rfl<|j0<|Q0<|G0 rfl<|sQ (dMv rfl) rfl<|V1 fun r_10 e_11=>yd ent12 rfl (Lb K _) e_11 ⟨flLit,trivial⟩ (.s rfl .nil) rfl (get_split r_10) fun u_0=>sQ (dMv rfl) rfl<|sQ (dX rfl rfl) rfl<|sQ (dX rfl rfl) rfl<|V5 (az:=[Ai .i64 (0:Int),.lit (.slice none 0 0)]) al24 (fun _ _=>.cons rfl (.cons rfl .nil)) rfl fun b_12=>V4 (j:=0) z24 rfl rfl rfl cAgg ⟨(oLit rfl),oSv,trivial⟩ rfl (le_ rfl)<|sQ (dAs rfl) rfl<|j0<|Q0<|G0 rfl<|sQ (dMv rfl) rfl<|V1 fun r_13 e_14=>sQ (j4 ent13 (za K _) e_14 (.s rfl .nil)) rfl<|sQ (dMv rfl) rfl<|sQ (dX rfl rfl) rfl<|sQ (dX rfl rfl) rfl<|V5 (az:=[Ai .i64 (0:Int),.lit (.slice none 0 0)]) al24 (fun _ _=>.cons rfl (.cons rfl .nil)) rfl fun b_15=>V4 (j:=0) z24 rfl rfl rfl cAgg ((cCert).one _) rfl (le_ rfl)<|sQ (dAs rfl) rfl<|j0<|Q0<|Q0<|G0 rfl<|sQ (dMv rfl) rfl<|sQ (dMv rfl) rfl<|sQ (jd rfl rfl) rfl<|sQ (dMv rfl) rfl<|Q4 (fun h_16=>?_) (fun h_16=>?_)
 ·refine sQu (j:=3) rfl rfl rfl (decide_eq_true h_16) rfl rfl<|sQu (j:=3) rfl rfl rfl (decide_eq_true h_16) rfl rfl<|sQu (j:=3) rfl rfl rfl (decide_eq_true h_16) rfl rfl<|sQu (j:=3) rfl rfl rfl (decide_eq_true h_16) rfl rfl<|sQ (W1 rfl (decide_eq_true h_16) rfl) rfl<|sQ (dMv rfl) rfl<|sQu (j:=9) rfl rfl rfl rfl rfl rfl<|sQu (j:=9) rfl rfl rfl rfl rfl rfl<|sQu (j:=9) rfl rfl rfl rfl rfl rfl<|sQu (j:=9) rfl rfl rfl rfl rfl rfl<|sQ (W1 rfl rfl rfl) rfl<|sQ (dMv rfl) rfl<|sQu (j:=15) rfl rfl rfl rfl rfl rfl<|sQu (j:=15) rfl rfl rfl rfl rfl rfl<|sQu (j:=15) rfl rfl rfl rfl rfl rfl<|sQu (j:=15) rfl rfl rfl rfl rfl rfl<|sQ (W1 rfl rfl rfl) rfl<|sQ (dMv rfl) rfl<|sQu (j:=21) rfl rfl rfl rfl rfl rfl<|sQu (j:=21) rfl rfl rfl rfl rfl rfl<|sQu (j:=21) rfl rfl rfl rfl rfl rfl<|sQu (j:=21) rfl rfl rfl rfl rfl rfl<|sQ (W1 rfl rfl rfl) rfl<|j0<|L6 rfl rfl<|Q0<|G0 rfl<|sQ (dAs rfl) rfl<|j0<|Q2 [3,2,1,0] Try.func3 Try.results3 (rT rfl) ⟨rfl,rfl⟩
 ·refine sQg (j:=3) rfl rfl rfl (decide_eq_false h_16) rfl (dMv rfl) rfl<|V1 fun r_17 e_18=>sQg (j:=3) rfl rfl rfl (decide_eq_false h_16) rfl (j4 ent14 (f6 K _) e_18 (.s rfl .nil)) rfl<|sQg (j:=3) rfl rfl rfl (decide_eq_false h_16) rfl (dMv rfl) rfl<|sQg (j:=3) rfl rfl rfl (decide_eq_false h_16) rfl (dNe rfl rfl) rfl<|sQ (V0 rfl (decide_eq_false h_16) rfl) rfl<|sQ (dMv rfl) rfl<|Q4 (fun h_19=>?_) (fun h_19=>?_)
  ·refine sQu (j:=9) rfl rfl rfl (decide_eq_true h_19) rfl rfl<|sQu (j:=9) rfl rfl rfl (decide_eq_true h_19) rfl rfl<|sQu (j:=9) rfl rfl rfl (decide_eq_true h_19) rfl rfl<|sQu (j:=9) rfl rfl rfl (decide_eq_true h_19) rfl rfl<|sQ (W1 rfl (decide_eq_true h_19) rfl) rfl<|sQ (dMv rfl) rfl<|sQu (j:=15) rfl rfl rfl rfl rfl rfl<|sQu (j:=15) rfl rfl rfl rfl rfl rfl<|sQu (j:=15) rfl rfl rfl rfl rfl rfl<|sQu (j:=15) rfl rfl rfl rfl rfl rfl<|sQ (W1 rfl rfl rfl) rfl<|sQ (dMv rfl) rfl<|sQu (j:=21) rfl rfl rfl rfl rfl rfl<|sQu (j:=21) rfl rfl rfl rfl rfl rfl<|sQu (j:=21) rfl rfl rfl rfl rfl rfl<|sQu (j:=21) rfl rfl rfl rfl rfl rfl<|sQ (W1 rfl rfl rfl) rfl<|j0<|L6 rfl rfl<|Q0<|G0 rfl<|sQ (dAs rfl) rfl<|j0<|Q2 [3,2,1,0] Try.func3 Try.results3 (rT rfl) ⟨rfl,rfl⟩
  ·refine sQg (j:=9) rfl rfl rfl (decide_eq_false h_19) rfl (J6 (j:=1) g24 z24 rfl rfl (le_ rfl)) rfl<|sQg (j:=9) rfl rfl rfl (decide_eq_false h_19) rfl (J6 (j:=0) g24 z24 rfl rfl (le_ rfl)) rfl<|V1 fun r_20 e_21=>sQg (j:=9) rfl rfl rfl (decide_eq_false h_19) rfl (qc ent15 (Q6 K _ _) e_21 flLit (.g rfl (lendCert 2 rfl)<|.s rfl .nil)) rfl<|sQg (j:=9) rfl rfl rfl (decide_eq_false h_19) rfl (L8 rfl) rfl<|sQ (V0 rfl (decide_eq_false h_19) rfl) rfl<|sQ (dMv rfl) rfl<|Q4 (fun h_22=>?_) (fun h_22=>?_)
   ·refine sQu (j:=15) rfl rfl rfl h_22 rfl rfl<|sQu (j:=15) rfl rfl rfl h_22 rfl rfl<|sQu (j:=15) rfl rfl rfl h_22 rfl rfl<|sQu (j:=15) rfl rfl rfl h_22 rfl rfl<|sQ (W1 rfl h_22 rfl) rfl<|sQ (dMv rfl) rfl<|sQu (j:=21) rfl rfl rfl rfl rfl rfl<|sQu (j:=21) rfl rfl rfl rfl rfl rfl<|sQu (j:=21) rfl rfl rfl rfl rfl rfl<|sQu (j:=21) rfl rfl rfl rfl rfl rfl<|sQ (W1 rfl rfl rfl) rfl<|j0<|L6 rfl rfl<|Q0<|G0 rfl<|sQ (dAs rfl) rfl<|j0<|Q2 [3,2,1,0] Try.func3 Try.results3 (rT rfl) ⟨rfl,rfl⟩
   ·refine sQg (j:=15) rfl rfl rfl (eq_false_of_ne_true h_22) rfl (dMv rfl) rfl<|V1 fun r_23 e_24=>sQg (j:=15) rfl rfl rfl (eq_false_of_ne_true h_22) rfl (j4 ent14 (f6 K _) e_24 (.s rfl .nil)) rfl<|sQg (j:=15) rfl rfl rfl (eq_false_of_ne_true h_22) rfl (dMv rfl) rfl<|sQg (j:=15) rfl rfl rfl (eq_false_of_ne_true h_22) rfl (dNe rfl rfl) rfl<|sQ (V0 rfl (eq_false_of_ne_true h_22) rfl) rfl<|sQ (dMv rfl) rfl<|Q4 (fun h_25=>?_) (fun h_25=>?_)
    ·refine sQu (j:=21) rfl rfl rfl (decide_eq_true h_25) rfl rfl<|sQu (j:=21) rfl rfl rfl (decide_eq_true h_25) rfl rfl<|sQu (j:=21) rfl rfl rfl (decide_eq_true h_25) rfl rfl<|sQu (j:=21) rfl rfl rfl (decide_eq_true h_25) rfl rfl<|sQ (W1 rfl (decide_eq_true h_25) rfl) rfl<|j0<|L6 rfl rfl<|Q0<|G0 rfl<|sQ (dAs rfl) rfl<|j0<|Q2 [3,2,1,0] Try.func3 Try.results3 (rT rfl) ⟨rfl,rfl⟩
    ·refine sQg (j:=21) rfl rfl rfl (decide_eq_false h_25) rfl (J6 (j:=3) g24 z24 rfl rfl (le_ rfl)) rfl<|sQg (j:=21) rfl rfl rfl (decide_eq_false h_25) rfl (G9 g24 z24 rfl (le_ rfl)) rfl<|V1 fun r_26 e_27=>sQg (j:=21) rfl rfl rfl (decide_eq_false h_25) rfl (j4 ent15 (Q6 K _ _) e_27 (.s rfl<|.s rfl .nil)) rfl<|sQg (j:=21) rfl rfl rfl (decide_eq_false h_25) rfl (L8 rfl) rfl<|sQ (V0 rfl (decide_eq_false h_25) rfl) rfl<|j0<|M6 rfl (fun h_28=>?_) (fun h_28=>?_)
     ·refine Q0<|G0 rfl<|sQ (dAs rfl) rfl<|j0<|Q2 [3,2,1,0] Try.func3 Try.results3 (rT rfl) ⟨rfl,rfl⟩
     ·refine M3<|Q0<|G0 rfl<|sQ (J6 (j:=1) g24 z24 rfl rfl (le_ rfl)) rfl<|V1 fun r_29 e_30=>toShpL 2 rfl fun hp_0 hk_0=>J2 [2] ent16 rfl (spCert_ok K _) e_30 rfl (.s rfl .nil) rfl fun _=>j0<|Q0<|G0 rfl<|sQ (dMv rfl) rfl<|V1 fun r_31 e_32=>sQ (j4 ent12 (pa K _) e_32 (.s rfl .nil)) rfl<|sQ (dMv rfl) rfl<|sQ (dX rfl rfl) rfl<|sQ (dX rfl rfl) rfl<|V5 (az:=[Ai .i64 (0:Int),.lit (.slice none 0 0)]) al24 (fun _ _=>.cons rfl (.cons rfl .nil)) rfl fun b_33=>V4 (j:=0) z24 rfl rfl rfl cAgg ((cCert).one _) rfl (le_ rfl)<|sQ (dAs rfl) rfl<|j0<|Q0<|G0 rfl<|sQ (J6 (j:=0) g24 z24 rfl rfl (le_ rfl)) rfl<|sQ (J6 (j:=1) g24 z24 rfl rfl (le_ rfl)) rfl<|V1 fun r_34 e_35=>sQ (j4 ent15 (Q6 K _ _) e_35 (.s rfl<|.s rfl .nil)) rfl<|sQ (dMv rfl) rfl<|Q4 (fun h_36=>?_) (fun h_36=>?_)
      ·refine V1 fun r_37 e_38=>sQg (j:=3) rfl rfl rfl h_36 rfl (j4 ent17 (L9 K) e_38 (.nil)) rfl<|sQ (W1 rfl h_36 rfl) rfl<|sQ (dAs rfl) rfl<|j0<|Q2 [3,2,1,0] Try.func3 Try.results3 (rT rfl) ⟨rfl,rfl⟩
      ·refine sQu (j:=3) rfl rfl rfl (eq_false_of_ne_true h_36) rfl rfl<|sQ (V0 rfl (eq_false_of_ne_true h_36) rfl) rfl<|sQ (dAs rfl) rfl<|j0<|Q2 [3,2,1,0] Try.func3 Try.results3 (rT rfl) ⟨rfl,rfl⟩
end Go.Proofs.Ytokccimmgilciaa

namespace Go.Proofs.Ytokccimmgilciaa
open S
set_option linter.unusedVariables false
set_option linter.unusedSimpArgs false
set_option maxRecDepth 100000
theorem take_rd18 {T:Type} [Inhabited T] {xs:List T} {t:Nat} (h:t<xs.length):xs.take t++[rd xs (t:Int)]=xs.take (t+1):=by
 rw [List.take_add_one]
 simp [rd,List.getD_eq_getElem?_getD,h]
theorem cc_l1 (K:Nat) (a:Cert) (i:Int) (ps:List Pick) (hps:(rd a.Nodes i).Picks=ps) (hb:ps.length≤3000000) (hk:∀ p ∈ ps,p.Kids.length≤3000000) (m:Nat) (hm:ps.length<m):M1.l1 K a i m ([],0)=some (ps,(ps.length:Int)):=by
 obtain ⟨r,h1,h2⟩:=rounds (L:=M1.l1 K a i) (fun s=>∃ t:Nat,t≤ps.length∧s=(ps.take t,(t:Int))) (fun s=>ps.length-s.2.toNat) (fun r=>r=(ps,(ps.length:Int)))
  (by
   rintro _ m ⟨t,ht,rfl⟩
   by_cases h:t<ps.length
   ·refine .inr ⟨(ps.take (t+1),((t+1:Nat):Int)),⟨t+1,by omega,rfl⟩,by simp only [Int.toNat_natCast];omega,?_⟩
    have hkk:=hk (rd ps (t:Int)) (rd_mem (by omega) (by omega))
    conv=>lhs;unfold M1.l1
    rw [hps,if_pos (by omega),if_pos (by omega),if_pos (by simp only [List.length_nil];omega),if_pos (by simp only [List.length_take,List.length_cons,List.length_nil];omega),wr (by omega) (by omega),List.nil_append]
    rw [show (⟨(rd ps (t:Int)).At,(rd ps (t:Int)).Conj,(rd ps (t:Int)).Kids⟩:Pick)=rd ps (t:Int) from rfl,take_rd18 h]
    rfl
   ·have e:t=ps.length:=by omega
    subst e
    refine .inl ⟨_,?_,rfl⟩
    conv=>lhs;unfold M1.l1
    rw [hps,if_neg (by omega),List.take_length]) m ([],0) ⟨0,by omega,by simp⟩ (by simpa using hm)
 rw [h1,h2]
theorem cc_eq (K:Nat) (a:Cert) (hn:a.Nodes.length<K∧a.Nodes.length≤1100000) (hp:∀ x ∈ a.Nodes,x.Picks.length<K∧x.Picks.length≤3000000∧∀ p ∈ x.Picks,p.Kids.length≤3000000):M1 K a=some a:=by
 have key:∀ m,a.Nodes.length<m→M1.l0 K a m ([],0)=some (a.Nodes,(a.Nodes.length:Int)):=by
  intro m hm
  obtain ⟨r,h1,h2⟩:=rounds (L:=M1.l0 K a) (fun s=>∃ t:Nat,t≤a.Nodes.length∧s=(a.Nodes.take t,(t:Int))) (fun s=>a.Nodes.length-s.2.toNat) (fun r=>r=(a.Nodes,(a.Nodes.length:Int)))
   (by
    rintro _ m ⟨t,ht,rfl⟩
    by_cases h:t<a.Nodes.length
    ·refine .inr ⟨(a.Nodes.take (t+1),((t+1:Nat):Int)),⟨t+1,by omega,rfl⟩,by simp only [Int.toNat_natCast];omega,?_⟩
     obtain ⟨q1,q2,q3⟩:=hp (rd a.Nodes (t:Int)) (rd_mem (by omega) (by omega))
     conv=>lhs;unfold M1.l0
     rw [if_pos (by omega),if_pos (by omega),cc_l1 K a t _ rfl q2 q3 K q1,Option.bind_some]
     dsimp only
     rw [if_pos (by simp only [List.length_take,List.length_cons,List.length_nil];omega),wr (by omega) (by omega)]
     exact congrArg (fun z=>M1.l0 K a m (z,(((t+1:Nat)):Int))) (take_rd18 h)
    ·have e:t=a.Nodes.length:=by omega
     subst e
     refine .inl ⟨_,?_,rfl⟩
     conv=>lhs;unfold M1.l0
     rw [if_neg (by omega),List.take_length]) m ([],0) ⟨0,by omega,by simp⟩ (by simpa using hm)
  rw [h1,h2]
 unfold M1
 rw [key K hn.1,Option.bind_some]
theorem spInts_end (K k:Nat) (h:k<K) (h2:k≤4000000000):spInts K k=some ():=by
 obtain ⟨r,h1,_⟩:=rounds (L:=spInts.l0 k) (fun s=>∃ t:Nat,t≤k∧s=(t:Int)) (fun s=>k-s.toNat) (fun _=>True)
  (by
   rintro _ m ⟨t,ht,rfl⟩
   by_cases h:t<k
   ·refine .inr ⟨((t+1:Nat):Int),⟨t+1,by omega,rfl⟩,by simp only [Int.toNat_natCast];omega,?_⟩
    conv=>lhs;unfold spInts.l0
    rw [if_pos (by omega),if_pos (by omega),wr (by omega) (by omega)];rfl
   ·exact .inl ⟨(t:Int),by unfold spInts.l0;rw [if_neg (by omega)],trivial⟩) K 0 ⟨0,by omega,rfl⟩ (by simpa using h)
 unfold spInts
 rw [h1,Option.bind_some]
theorem spCert_end (K:Nat) (sh:List (List Nat)) (h:sh.length<K∧sh.length≤4000000000) (h2:∀ ps ∈ sh,ps.length<K∧ps.length≤4000000000∧∀ k ∈ ps,k<K∧k≤4000000000):spCert K sh=some ():=by
 have in_:∀ ps:List Nat,(ps.length<K∧ps.length≤4000000000∧∀ k ∈ ps,k<K∧k≤4000000000)→∃ r,spCert.l1 K ps K 0=some r:=by
  rintro ps ⟨p1,p2,p3⟩
  obtain ⟨r,h1,_⟩:=rounds (L:=spCert.l1 K ps) (fun s=>∃ t:Nat,t≤ps.length∧s=(t:Int)) (fun s=>ps.length-s.toNat) (fun _=>True)
   (by
    rintro _ m ⟨t,ht,rfl⟩
    by_cases h:t<ps.length
    ·refine .inr ⟨((t+1:Nat):Int),⟨t+1,by omega,rfl⟩,by simp only [Int.toNat_natCast];omega,?_⟩
     obtain ⟨k1,k2⟩:=p3 (rd ps (t:Int)) (rd_mem (by omega) (by omega))
     conv=>lhs;unfold spCert.l1
     rw [if_pos (by omega),if_pos (by omega),spInts_end K _ k1 k2,Option.bind_some,wr (by omega) (by omega)];rfl
    ·exact .inl ⟨(t:Int),by unfold spCert.l1;rw [if_neg (by omega)],trivial⟩) K 0 ⟨0,by omega,rfl⟩ (by simpa using p1)
  exact ⟨r,h1⟩
 obtain ⟨r,h1,_⟩:=rounds (L:=spCert.l0 K sh) (fun s=>∃ t:Nat,t≤sh.length∧s=(t:Int)) (fun s=>sh.length-s.toNat) (fun _=>True)
  (by
   rintro _ m ⟨t,ht,rfl⟩
   by_cases h':t<sh.length
   ·refine .inr ⟨((t+1:Nat):Int),⟨t+1,by omega,rfl⟩,by simp only [Int.toNat_natCast];omega,?_⟩
    obtain ⟨r,hr⟩:=in_ (rd sh (t:Int)) (h2 _ (rd_mem (by omega) (by omega)))
    conv=>lhs;unfold spCert.l0
    rw [if_pos (by omega),if_pos (by omega),hr,Option.bind_some,wr (by omega) (by omega)];rfl
   ·exact .inl ⟨(t:Int),by unfold spCert.l0;rw [if_neg (by omega)],trivial⟩) K 0 ⟨0,by omega,rfl⟩ (by simpa using h.1)
 unfold spCert
 rw [h1,Option.bind_some]
theorem get_sizes (L:List Int) (hb:Byt L):(getR L).1.Nodes.length≤65536∧∀ x ∈ (getR L).1.Nodes,x.Picks.length≤65535∧∀ p ∈ x.Picks,p.Kids.length≤255:=by
 rcases getR_err L with h | ⟨h,_⟩
 ·obtain ⟨g1,g2,_,_⟩:=getR_cert hb (c:=(getR L).1) (by rw [← h])
  refine ⟨g2,fun x hx=>?_⟩
  obtain ⟨_,hh,hp⟩:=g1.2 x hx
  refine ⟨?_,fun p hq=>?_⟩
  ·have:=hh.2.2.2.2.2.2.2.2
   unfold F2 at this;omega
  ·have:=(hp p hq).2.2.1
   unfold F1 at this;omega
 ·rw [h];exact ⟨by decide,fun x hx=>nomatch hx⟩
theorem Packs_true (K:Nat) (hK:70000≤K) (c:Cert) (s:ByteArray) (hc:M1 K c=some c) (hr:PR K c) (hsm:certSm c) (hb:PB K c):G7 K c s=some true:=by
 obtain ⟨r,h1,h2⟩:=Put_spec K (by omega) c hsm hb
 obtain ⟨r',h1',h2'⟩:=RPut_spec K (by omega) c hr
 have e:=h2'.uniq h2
 subst e
 have hN:∀ x,M5 K x=some x:=fun _=>rfl
 obtain ⟨z1,z2⟩:=get_sizes (bytesL s) (bytesL_byt s)
 have hd:PR K (getR (bytesL s)).1:=⟨⟨by omega,by omega⟩,fun x hx=>⟨by have:=(z2 x hx).1;omega,by have:=(z2 x hx).1;omega⟩,fun x hx p hq=>⟨by have:=(z2 x hx).2 p hq;omega,by have:=(z2 x hx).2 p hq;omega⟩⟩
 have hs:spCert K (shOf (getR (bytesL s)).1.Nodes)=some ():=by
  refine spCert_end K _ ⟨by simp only [shOf,List.length_map];omega,by simp only [shOf,List.length_map];omega⟩ fun ps hp=>?_
  simp only [shOf,List.mem_map] at hp
  obtain ⟨x,hx,rfl⟩:=hp
  obtain ⟨y1,y2⟩:=z2 x hx
  refine ⟨by rw [List.length_map];omega,by rw [List.length_map];omega,fun k hk=>?_⟩
  simp only [List.mem_map] at hk
  obtain ⟨p,hp,rfl⟩:=hk
  have:=y2 p hp
  omega
 unfold G7
 rw [hc,Option.bind_some,show (⟨c.Root,c.Nodes⟩:Cert)=c from rfl,h1,Option.bind_some,h1',Option.bind_some,Get_spec K hK,Option.bind_some,RGet_spec K hK,Option.bind_some,if_neg (fun h=>h rfl),hN,Option.bind_some,if_neg (fun h=>h rfl)]
 rw [show (⟨(getR (bytesL s)).1.Root,(getR (bytesL s)).1.Nodes⟩:Cert)=(getR (bytesL s)).1 from rfl,sameCert K _ _ hd,decide_eq_true rfl,Option.bind_some,if_neg (by decide),hN,Option.bind_some,if_neg (fun h=>h rfl),sameCert K _ _ hr,decide_eq_true rfl,Option.bind_some,if_neg (by decide),hs,Option.bind_some,Option.bind_some,show (⟨(getR (bytesL s)).1.Root,(getR (bytesL s)).1.Nodes⟩:Cert)=(getR (bytesL s)).1 from rfl,sameCert K _ _ hd,decide_eq_true rfl,Option.bind_some,if_pos rfl,awake18 K hK,Option.bind_some]
theorem Packs_holds (c:Cert) (s:ByteArray) (w:cc c) (m:muCert c≤1048576) (_:wfS s) (_:muS s≤1048576):∃ K,G7 K c s=some true:=by
 have hr:=PR_mu c m
 have hb:=PB_mu c m
 have h0:muL muNode c.Nodes≤1048576:=by unfold muCert at m;omega
 have n1:=mu_len (mu:=muNode) (xs:=c.Nodes) (fun x=>by unfold muNode;omega)
 have hp:∀ x ∈ c.Nodes,muL muPick x.Picks≤1048576:=fun x hx=>by
  have:=mu_mem (mu:=muNode) hx
  have e:muL muPick x.Picks≤muNode x:=by unfold muNode;omega
  omega
 refine ⟨2000000,Packs_true _ (by omega) c s (cc_eq _ c ⟨by omega,by omega⟩ fun x hx=>?_) hr (sm_wf c w) hb⟩
 have q1:=mu_len (mu:=muPick) (xs:=x.Picks) (fun x=>by unfold muPick;omega)
 have q2:=hp x hx
 refine ⟨by omega,by omega,fun p hq=>?_⟩
 have:=mu_mem (mu:=muPick) hq
 have e:muL muI p.Kids≤muPick p:=by unfold muPick;omega
 have q3:=mu_len (mu:=muI) (xs:=p.Kids) (fun _=>Nat.le_refl 1)
 omega
end Go.Proofs.Ytokccimmgilciaa

