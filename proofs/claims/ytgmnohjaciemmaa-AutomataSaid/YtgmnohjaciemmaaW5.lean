import Derived.Shelf.SlSortCmp.InsertionK
import Derived.Shelf.SlSortCmp.NoneTotal
import Derived.Laws.BitsLemmas
import Derived.Test.YtgmnohjaciemmaaProg
import Derived.Test.YtgmnohjaciemmaaW4
namespace Go.Proofs.Ytgmnohjaciemmaa
namespace S
open Go.RowKit
set_option linter.unusedVariables false
set_option linter.unusedSimpArgs false
set_option linter.unusedSectionVars false
set_option maxRecDepth 100000
def AV.keys (g b:Nat):AV :=
 ⟨fun Z w u=>∃ p,u = .func (.func g) #[] #[p]∧(AV.fptr [.lit (.map (some b))]).p Z w p,fun hz hk ⟨p,e,h⟩=>⟨p,e,AV.st _ hz hk h⟩⟩
theorem Inv.more {w0 w:World} {F0 Z0 F Z:Nat→Prop} {H:List Res} (hi:Inv w0 w F0 Z0 F Z H) {r:Res} (hr:r.h Z w (fun _=>False)):Inv w0 w F0 Z0 F Z (r::H) :=
 ⟨hi.base,hi.z0,hi.zin,hi.fin,⟨fun _=>False,F,hr,hi.res,fun _ h=>h.elim,fun _ h=>h⟩⟩
theorem ne_pure {P:Program} {op:Op} {y:Operand} (h:op = .move y∨op = .assign y) (ρ:Operand→Value) (o:Oper) (w:World) (g:FuncId) (args:Array Value) (w':World) (ho:o.op=op):(execOp ρ o).run P w≠.ok (.enter g args) w':=by
 rcases h with rfl | rfl <;> simp [execOp,ho]
section
variable {P:Program} {κ ν:Type} {c:Co κ} {ek:κ→Value} {ev:ν→Value} {tM kt et tS:TypeId} {zs:List Value} {az:List AV} {z:Value} {bytes:Nat}
set_option maxHeartbeats 2000000 in
theorem appendSeq (Y:KeysTy P c ek ev tM kt et tS zs az z bytes) {b:Nat} {es:List (κ×ν)} {g:FuncId} (hg:Ent P g)
  (hit:∀ {Bs l:Nat} {rec:Loop} {v:Value},ApRec tS kt Bs rec→Spec P g [.lit (.func (.yield l) #[] #[]),.fptr [.lit (.map (some b))]] [.mp ek ev b es,.box Bs [.sv v],.own kt c v [],.obj l (.loop rec)]
   fun a H=>∃ v' ss,ss.Perm (es.map (·.1))∧H=[.mp ek ev b es,.box Bs [.sv v'],.own kt c v' ss,.obj l (.loop rec)])
  {f:FuncId} {fn:Func} {i0 i1 i2 i3 i4:Nat} {t1 t2 t3 t4 t5 t6 t7 t8 t9 t10 t11 t12:TypeId} {p1 p2 p3 p4 p5 p6 p7 p8 p9 p10 p11 p12:String} {a1 a2 a3 a4 a5 a6 a7 a8 a9 a10 a11 a12:Array Edge}
  (hf:P.funcs[f]?=some fn) (hn:fn.ntmps=13) (hr:fn.results=#[.tmp 4])
  (hb:fn.body=some (.seq (.region i0 #[⟨some 2,.box tS (.tmp 0),t1,p1,a1,none⟩,⟨some 4,.assign (.const (.slice none 0 0)),t2,p2,a2,none⟩] false)
   (.seq (.seq (.region i1 #[⟨some 6,.move (.tmp 1),t3,p3,a3,none⟩] false)
    (.block 0 (.rangeFunc (.tmp 6) #[7] (.region i2 #[⟨some 5,.alloc kt,t4,p4,a4,none⟩,⟨none,.store kt (.tmp 5) (.tmp 7),t5,p5,a5,none⟩] false)
     (.block 1 (.region i3 #[⟨some 8,.load tS (.tmp 2),t6,p6,a6,none⟩,⟨some 9,.load kt (.tmp 5),t7,p7,a7,none⟩,⟨some 10,.buildSlice tS 1 #[(0,.tmp 9)],t8,p8,a8,none⟩,⟨some 11,.call ⟨.builtin .append,#[.tmp 8,.tmp 10],#[tS,tS]⟩,t9,p9,a9,none⟩,⟨none,.store tS (.tmp 2) (.tmp 11),t10,p10,a10,none⟩] false)))))
    (.seq (.region i4 #[⟨some 12,.load tS (.tmp 2),t11,p11,a11,none⟩,⟨some 4,.assign (.tmp 12),t12,p12,a12,none⟩] false) .ret)))) :
  Spec P f [.lit (.slice none 0 0),.keys g b] [.mp ek ev b es] fun a H=>∃ v ss,a = .sv v∧ss.Perm (es.map (·.1))∧H=[.own kt c v ss,.mp ek ev b es]:=by
 intro w F Z vs hvs hi
 cases hvs with
 | @cons _ v0 _ vs' hv0 hvs' =>
 cases hvs' with
 | @cons _ u _ vs'' hu hvs'' =>
 cases hvs''
 have hv0':v0 = .slice none 0 0:=hv0
 subst hv0'
 refine callsIn_wide.1 (callsIn_of_wp_marks (n:=0) (F:=Fence.wide) hf hb trivial ?_)
 have hall:AllP Z w [.sv (.slice none 0 0),.keys g b] [.slice none 0 0,u]:=.cons ⟨rfl,_,_,_,rfl⟩ (.cons hu .nil)
 have hf0:FrOk (frOf 0 [.sv (.slice none 0 0),.keys g b]) Z w (([.slice none 0 0,u]:List Value).toArray++Array.replicate (fn.ntmps-([.slice none 0 0,u]:List Value).toArray.size) undef):=frOf_ok hall 0 _ fun j v hj=>by
  match j,hj with
  | 0,hj=>simp at hj;subst hj;rw [hn];rfl
  | 1,hj=>simp at hj;subst hj;rw [hn];rfl
  | j+2,hj=>simp at hj
 rw [hn] at hf0 ⊢
 refine wpIn_seq (wpIn_region ?_)
 refine (show WL P Fence.wide 0 [] 13 _ _ w F Z [0,1] _ _ from
  wV (fun _=>trivial) (d:=2) (I:=Nat) (av:=fun B=>.lit (.pointer (some ⟨B,0,none⟩))) (H':=fun B=>[.box B [.sv (.slice none 0 0)],.mp ek ev b es]) (fun o ho hty w0 F0 Z0 w F Z ρ hi hf=>⟨.pointer (some ⟨w.heap.size,0,none⟩),w.alloc (.cells (ρ (.tmp 0)).cells.toList.toArray tS),w.heap.size,_,Z,by simp only [execOp,ho,box_run,Sem.run_bind,Result.andThen_ok,Sem.run_pure],hi.push _ (.box w.heap.size [.sv (.slice none 0 0)]) ⟨rfl,_,tS,alloc_cells w _ tS,cOne oSv _ _ _ (AV.st _ (fun _ x=>x) ((Step.alloc w _ _).keep' hi) (hf (by simp [Op.operands]) rfl))⟩,fun _ x=>x,(Step.alloc w _ _).keep' hi,rfl⟩) rfl (fun c h=>by cases h) (by omega) fun B =>
  wQ (fun _=>trivial) (d:=4) (dAs rfl) (ne_pure (.inr rfl)) rfl (fun c h=>by cases h) (by omega) fun w1 F1 Z1 tm1 hn1 hi1 hf1=>?_) w F Z _ (by simp) hi hf0
 refine wpIn_seq (wpIn_seq (wpIn_region ?_))
 refine (show WL P Fence.wide 0 [] 13 _ _ w F Z [0] _ _ from wQ (fun _=>trivial) (d:=6) (dMv rfl) (ne_pure (.inl rfl)) rfl (fun c h=>by cases h) (by omega) fun w2 F2 Z2 tm2 hn2 hi2 hf2=>?_) w1 F1 Z1 tm1 hn1 hi1 hf1
 refine wpIn_block (wpIn_rangeFunc ?_)
 intro fnn _
 have e6:(AV.keys g b).p Z2 w2 (tm2.getD 6 undef):=hf2 6 _ rfl
 obtain ⟨p,hp,hfp⟩:=e6
 have e2:tm2.getD 2 undef = .pointer (some ⟨B,0,none⟩):=hf2 2 _ rfl
 have hi3:=(hi2.push (.deferred (some [])) (.obj w2.heap.size (.deferred (some []))) ⟨rfl,heap_alloc_new w2 _⟩)
 generalize hrec:({ state:=.ready,pending:=none,fn:=fnn,tmps:=tm2,params:=#[7],assign:=.region i2 #[⟨some 5,.alloc kt,t4,p4,a4,none⟩,⟨none,.store kt (.tmp 5) (.tmp 7),t5,p5,a5,none⟩] false,body:=.block 1 (.region i3 #[⟨some 8,.load tS (.tmp 2),t6,p6,a6,none⟩,⟨some 9,.load kt (.tmp 5),t7,p7,a7,none⟩,⟨some 10,.buildSlice tS 1 #[(0,.tmp 9)],t8,p8,a8,none⟩,⟨some 11,.call ⟨.builtin .append,#[.tmp 8,.tmp 10],#[tS,tS]⟩,t9,p9,a9,none⟩,⟨none,.store tS (.tmp 2) (.tmp 11),t10,p10,a10,none⟩] false),defers:=w2.heap.size }:Loop)=rec
 have hA:ApRec tS kt B rec:=by
  subst hrec
  exact ⟨hn2,e2,rfl,rfl,rfl,⟨_,_,_,_,_,_,_,rfl⟩,⟨_,_,_,_,_,_,_,_,_,_,_,_,_,_,_,_,_,rfl⟩⟩
 have hi4:=(hi3.push (.loop rec) (.obj (w2.alloc (.deferred (some []))).heap.size (.loop rec)) ⟨rfl,heap_alloc_new _ _⟩).more (r:=.own kt c (.slice none 0 0) []) (.inr ⟨rfl,none,rfl⟩)
 have hk4:Keep Z2 w2 ((w2.alloc (.deferred (some []))).alloc (.loop rec)):=fun x hx=>by
  have hlt:=(hi2.zin x hx).1
  rw [Below.heap_alloc _ _ x (by simp;omega),Below.heap_alloc _ _ x hlt]
 obtain ⟨F5,hin,hback⟩:=hi4.lend (js:=[4,3,0,0]) (Hin:=[.mp ek ev b es,.box B [.sv (.slice none 0 0)],.own kt c (.slice none 0 0) [],.obj (w2.alloc (.deferred (some []))).heap.size (.loop rec)]) rfl
 have hl1:(w2.alloc (.deferred (some []))).heap.size=w2.heap.size+1:=by simp
 rw [hl1] at hin hback
 refine ⟨w2.heap.size+1,[{ target:=.collected w2.heap.size,args:=#[] }],(w2.alloc (.deferred (some []))).alloc (.loop rec),{ target:=.fn (.func g) #[p],args:=#[.func (.yield (w2.heap.size+1)) #[] #[]] },(w2.alloc (.deferred (some []))).alloc (.loop rec),g,#[.func (.yield (w2.heap.size+1)) #[] #[]]++#[p],(w2.alloc (.deferred (some []))).alloc (.loop rec),?_,?_,fun _ _=>trivial,?_,fun h=>by simp [Fence.wide] at h,?_⟩
 ·rw [← hrec];exact run_enterLoop_outer _ _ _ _ _
 ·have e6':(⟨tm2,[]⟩:Act).eval (.tmp 6) = .func (.func g) #[] #[p]:=hp
  have e7:(⟨tm2,[]⟩:Act).eval (.const (.func (.yield (w2.heap.size+1)) #[] #[])) = .func (.yield (w2.heap.size+1)) #[] #[]:=rfl
  simp only [resolve,rangeCall,e6',Deferred.ofValue,List.map_toArray,List.map_cons,List.map_nil,e7,Sem.run_pure]
  rfl
 ·exact hg _ _
 ·refine callsIn_wide.2 ((hit hA _ F5 Z2 [.func (.yield (w2.heap.size+1)) #[] #[],p] (.cons rfl (.cons (AV.st _ (fun _ x=>x) hk4 hfp) .nil)) hin).mono ?_)
  rintro e w5 ⟨vr,rfl,F6,Z6,av,H6,⟨v',ss,hperm,rfl⟩,hinv,_⟩
  obtain ⟨F7,hi7,hk7⟩:=hback w5 F6 Z6 _ hinv
  have hi7':Inv w w5 F Z F7 Z6 [.mp ek ev b es,.box B [.sv v'],.own kt c v' ss,.obj (w2.heap.size+1) (.loop rec),.obj w2.heap.size (.deferred (some []))]:=hi7
  obtain ⟨_,⟨_,hL⟩,_⟩:=hi7'.res.at (j:=3) rfl
  have hst:rec.state≠.busy:=by rw [hA.st];decide
  obtain ⟨F8,hi8,hk8⟩:=hi7'.put (j:=3) (o':=.loop { rec with state:=.exhausted }) rfl
  have hend:=run_endLoop (P:=P) hL hst
  generalize ({ rec with state:=.exhausted }:Loop)=rx at hi8 hk8 hend
  rw [hA.pe] at hend
  refine ⟨none,_,hend,?_⟩
  have hf8:FrOk _ Z6 (w5.putObj (w2.heap.size+1) (.loop rx)) tm2:=(((hf2.st (fun _ x=>x) hk4).st hinv.z0 hk7).st (fun _ x=>x) hk8)
  refine wpIn_seq (wpIn_region ?_)
  refine (show WL P Fence.wide 0 [{ target:=.collected w2.heap.size,args:=#[] }] 13 _ _ w F Z [0,1] _ _ from
   wQ (fun _=>trivial) (d:=12) (L6 (j:=1) (a:=.sv v') Y.gS rfl rfl rfl) ne_load rfl (fun c h=>by cases h) (by omega) <|
   wQ (fun _=>trivial) (d:=4) (dAs rfl) (ne_pure (.inr rfl)) rfl (fun c h=>by cases h) (by omega) fun w9 F9 Z9 tm9 hn9 hi9 hf9=>?_) _ F8 Z6 tm2 hn2 hi8 hf8
  refine wpIn_ret ?_
  obtain ⟨_,⟨_,hK⟩,_⟩:=hi9.res.at (j:=4) rfl
  obtain ⟨F10,hi10,hk10⟩:=hi9.put (j:=4) (o':=.deferred none) rfl
  refine ⟨by simp,.inl ⟨_,_,rfl,run_takeDeferred hK,?_⟩⟩
  obtain ⟨v1,e1,q1⟩:=rT (P:=P) (H:=[]) (fr:=(4,AV.sv v')::(12,AV.sv v')::_) (u:=4) rfl Z9 (fun _=>False) _ tm9 trivial (hf9.st (fun _ x=>x) hk10)
  exact ⟨v1,results1 hr e1,v1,rfl,F10,Z9,.sv v',_,⟨v',ss,rfl,hperm,rfl⟩,hi10.less (·.pickR [2,0]),q1⟩
end
end S
namespace S
open Go.RowKit
set_option linter.unusedVariables false
set_option linter.unusedSimpArgs false
set_option linter.unusedSectionVars false
set_option maxRecDepth 100000
section
variable {P:Program} {f:FuncId} {n:Nat} {H:List Res} {fr:Fr} {ty:TypeId} {κ ν:Type} {c:Co κ} {ek:κ→Value} {ev:ν→Value} {kt tS:TypeId}
theorem dMkF {g b:Nat} {y:Operand} (hy:arg fr y=some (.fptr [.lit (.map (some b))])):D P n H (.makeFunc (.func g) #[] #[y]) ty fr (.keys g b) :=
 .of fun o ho hty w Z F ρ _ hf=>by
  have hp:=hf (by simp [Op.operands]) hy
  exact ⟨.func (.func g) #[] #[ρ y],by simp [execOp,ho,Instr.makeFunc,Sem.run_bind],ρ y,rfl,hp⟩
theorem keysFn {tM:TypeId} {b g:Nat} {fn:Func} {i0 i1:Nat} {t1 t2 t3 t4:TypeId} {p1 p2 p3 p4:String} {a1 a2 a3 a4:Array Edge}
  (hf:P.funcs[f]?=some fn) (hn:fn.ntmps=4) (hr:fn.results=#[.tmp 2])
  (hb:fn.body=some (.seq (.region i0 #[⟨some 1,.box tM (.tmp 0),t1,p1,a1,none⟩,⟨some 2,.assign (.const .nilFunc),t2,p2,a2,none⟩] false)
   (.seq (.region i1 #[⟨some 3,.makeFunc (.func g) #[] #[.tmp 1],t3,p3,a3,none⟩,⟨some 2,.assign (.tmp 3),t4,p4,a4,none⟩] false) .ret))) :
  Pure P f [.lit (.map (some b))] (some ()) fun _=>.keys g b :=
 spec_of' hf hb hn (by exact (show 1≤4 by decide))<|J0<|L4 rfl<|sQ (Q6 (az:=[.lit (.map (some b))]) rfl (cOne (oLit rfl))) rfl<|sQ (dAs rfl) rfl<|j0<|J0<|L4 rfl<|sQ (dMkF rfl) rfl<|sQ (dAs rfl) rfl<|j0<|P0 [] hf hr (rT rfl) ⟨rfl,rfl⟩
def KeysPost (kt:TypeId) (c:Co κ) (ek:κ→Value) (ev:ν→Value) (b:Nat) (es:List (κ×ν)) (a:AV) (H:List Res):Prop:=∃ v ss,a = .sv v∧ss.Perm (es.map (·.1))∧H=[.own kt c v ss,.mp ek ev b es]
theorem collectFn {b g f44:Nat} {es:List (κ×ν)} (hg:Ent P f44) (hap:Spec P f44 [.lit (.slice none 0 0),.keys g b] [.mp ek ev b es] (KeysPost kt c ek ev b es))
  {fn:Func} {i0 i1:Nat} {t1 t2 t3 t4:TypeId} {q:Array TypeId} {p1 p2 p3 p4:String} {a1 a2 a3 a4:Array Edge}
  (hf:P.funcs[f]?=some fn) (hn:fn.ntmps=5) (hr:fn.results=#[.tmp 2])
  (hb:fn.body=some (.seq (.region i0 #[⟨some 2,.assign (.const (.slice none 0 0)),t1,p1,a1,none⟩] false)
   (.seq (.region i1 #[⟨some 3,.move (.tmp 0),t2,p2,a2,none⟩,⟨some 4,.call ⟨.value (.func f44),#[.const (.slice none 0 0),.tmp 3],q⟩,t3,p3,a3,none⟩,⟨some 2,.assign (.tmp 4),t4,p4,a4,none⟩] false) .ret))) :
  Spec P f [.keys g b] [.mp ek ev b es] (KeysPost kt c ek ev b es):=by
 have main:=spec_of (H:=[.mp ek ev b es]) (avs:=[.keys g b]) (x:=some ()) (K:=fun (_:Unit) a H=>KeysPost kt c ek ev b es a H) hf hb (by rw [hn];exact (show 1≤5 by decide)) ?_
 ·exact main () rfl
 rw [hn]
 refine J0<|L4 rfl<|sQ (dAs rfl) rfl<|j0<|J0<|L4 rfl<|sQ (dMv rfl) rfl<|Lc [0] hg rfl hap rfl (.s rfl (.s rfl .nil)) rfl fun av H' h=>?_
 obtain ⟨v,ss,rfl,hp,rfl⟩:=h
 exact sQ (dAs rfl) rfl<|j0<|P0 [] hf hr (rT rfl) ⟨v,ss,rfl,hp,rfl⟩
theorem sortedFn {b g f32 f33 gc:Nat} {es:List (κ×ν)} {Sd:List κ→Prop} (hg:Ent P f32) (hg':Ent P f33) (hco:Spec P f32 [.keys g b] [.mp ek ev b es] (KeysPost kt c ek ev b es))
  (hso:∀ v ss,ss.Perm (es.map (·.1))→Spec P f33 [.sv v,.lit (.func (.func gc) #[] #[])] [.own kt c v ss] fun a H=>∃ ys,ys.Perm ss∧Sd ys∧H=[.own kt c v ys])
  {fn:Func} {i0 i1 i2 i3:Nat} {t1 t2 t3 t4 t5 t6 t7 t8 t9:TypeId} {q q':Array TypeId} {p1 p2 p3 p4 p5 p6 p7 p8 p9:String} {a1 a2 a3 a4 a5 a6 a7 a8 a9:Array Edge}
  (hf:P.funcs[f]?=some fn) (hn:fn.ntmps=12) (hr:fn.results=#[.tmp 4])
  (hb:fn.body=some (.seq (.region i0 #[⟨some 4,.assign (.const (.slice none 0 0)),t1,p1,a1,none⟩] false)
   (.seq (.region i1 #[⟨some 6,.move (.tmp 0),t2,p2,a2,none⟩,⟨some 7,.call ⟨.value (.func f32),#[.tmp 6],q⟩,t3,p3,a3,none⟩,⟨some 5,.assign (.tmp 7),t4,p4,a4,none⟩] false)
    (.seq (.region i2 #[⟨some 8,.move (.tmp 5),t5,p5,a5,none⟩,⟨some 9,.move (.tmp 1),t6,p6,a6,none⟩,⟨some 10,.call ⟨.value (.func f33),#[.tmp 8,.tmp 9],q'⟩,t7,p7,a7,none⟩] false)
     (.seq (.region i3 #[⟨some 11,.move (.tmp 5),t8,p8,a8,none⟩,⟨some 4,.assign (.tmp 11),t9,p9,a9,none⟩] false) .ret))))) :
  Spec P f [.keys g b,.lit (.func (.func gc) #[] #[])] [.mp ek ev b es] fun a H=>∃ v ys,a = .sv v∧ys.Perm (es.map (·.1))∧Sd ys∧H=[.own kt c v ys,.mp ek ev b es]:=by
 have main:=spec_of (H:=[.mp ek ev b es]) (avs:=[.keys g b,.lit (.func (.func gc) #[] #[])]) (x:=some ()) (K:=fun (_:Unit) a H=>∃ v ys,a = .sv v∧ys.Perm (es.map (·.1))∧Sd ys∧H=[.own kt c v ys,.mp ek ev b es]) hf hb (by rw [hn];exact (show 2≤12 by decide)) ?_
 ·exact main () rfl
 rw [hn]
 refine J0<|L4 rfl<|sQ (dAs rfl) rfl<|j0<|J0<|L4 rfl<|sQ (dMv rfl) rfl<|Lc [0] hg rfl hco rfl (.s rfl .nil) rfl fun av H' h=>?_
 obtain ⟨v,ss,rfl,hp,rfl⟩:=h
 refine sQ (dAs rfl) rfl<|j0<|J0<|L4 rfl<|sQ (dMv rfl) rfl<|sQ (dMv rfl) rfl<|Lc [0] hg' rfl (hso v ss hp) rfl (.s rfl (.s rfl .nil)) rfl fun av H' h=>?_
 obtain ⟨ys,hp2,hs,rfl⟩:=h
 exact j0<|J0<|L4 rfl<|sQ (dMv rfl) rfl<|sQ (dAs rfl) rfl<|j0<|P0 [] hf hr (rT rfl) ⟨v,ys,rfl,hp2.trans hp,hs,rfl⟩
end
end S
namespace S
open Go.RowKit Go.Sort
set_option linter.unusedVariables false
set_option linter.unusedSimpArgs false
set_option linter.unusedSectionVars false
theorem world_grown {W w':World} (hb:Base W w' (fun _=>False)):∃ q os',w'=grow (W.drewN q) os':=by
 obtain ⟨h1,h2,h3,h4,h5,h6⟩:=hb
 refine ⟨w'.drawn-W.drawn,w'.heap.extract W.heap.size w'.heap.size,?_⟩
 have hh:w'.heap=W.heap++w'.heap.extract W.heap.size w'.heap.size:=by
  apply Array.ext_getElem?
  intro i
  rw [Array.getElem?_append]
  split
  ·rename_i hi;exact h6 i hi id
  ·rename_i hi
   rw [Array.getElem?_extract]
   split
   ·congr 1;omega
   ·rw [Array.getElem?_eq_none (by omega)]
 cases W;cases w'
 simp only at h1 h2 h3 h4 hh
 simp only [grow,World.drewN,World.mk.injEq]
 exact ⟨hh,h2,by omega,h1,h3⟩
theorem allP_of_lits {Z:Nat→Prop} {w:World}:∀ us:List Value,AllP Z w (us.map AV.lit) us
 | []=>.nil
 | _::us=>.cons rfl (allP_of_lits us)
section
variable {P:Program} {κ:Type} [Inhabited κ] {c:Co κ} {lits:κ→List Value}
theorem lits_len (hl:∀ x,c.e x=(lits x).map AV.lit) (x:κ):(lits x).length=c.sz:=by
 have:=c.len x;rw [hl,List.length_map] at this;exact this
theorem cmpLays_of (hl:∀ x,c.e x=(lits x).map AV.lit) {cf:κ→κ→Int} {gc:Nat} (hcmp:∀ x y,Pure P gc [.agg (c.e x),.agg (c.e y)] (some (cf x y)) fun r=>Ai .i64 r) (blk off size:Nat) (w:World) :
  CmpLays P gc #[] lits c.sz cf blk off size w:=by
 intro m os dk hs x y
 have hx:∀ z:κ,(AV.agg (c.e z)).p (fun _=>False) (sortWorldK lits c.sz w blk off m dk os) (.agg (lits z).toArray):=fun z=>⟨lits z,rfl,by rw [hl];exact allP_of_lits _⟩
 have:=hcmp x y _ rfl (sortWorldK lits c.sz w blk off m dk os) (fun _=>False) (fun _=>False) [.agg (lits x).toArray,.agg (lits y).toArray] (.cons (hx x) (.cons (hx y) .nil)) ⟨Base.refl _ _,fun _ h=>h,fun _ h=>h.elim,fun _ h=>h.elim,trivial⟩
 refine this.mono ?_
 rintro e w' ⟨v,rfl,F,Z,av,H,⟨rfl,rfl⟩,hinv,hv⟩
 have hv':v = .int .i64 (cf x y):=hv
 subst hv'
 exact ⟨rfl,world_grown hinv.base⟩
theorem own_lits (hl:∀ x,c.e x=(lits x).map AV.lit) {Z:Nat→Prop} {w:World} {xs:List κ} {cs:List Value} (hr:Rows c Z w xs cs) (j:Nat) (hj:j<xs.length*c.sz):cs[j]?=some ((flatK lits c.sz xs.toArray)[j]!):=by
 have hpos:=c.pos
 have hi:j / c.sz<xs.length:=by rw [Nat.div_lt_iff_lt_mul hpos];exact hj
 have hx:xs[j / c.sz]?=some xs[j / c.sz]:=by simp [hi]
 obtain ⟨vs,h1,h2⟩:=hr _ _ hx
 rw [hl] at h1
 have hvs:=allP_lits h1
 subst hvs
 have hm:j % c.sz<(lits xs[j / c.sz]).length:=by rw [lits_len hl];exact Nat.mod_lt _ hpos
 have:=h2 (j % c.sz) ((lits xs[j / c.sz])[j % c.sz]) (by simp [hm])
 rw [Nat.div_add_mod'] at this
 rw [this,get_flatK _ _ _ _ (by simpa using hj)]
 congr 1
 simp [hi,hm]
theorem rows_flat (hl:∀ x,c.e x=(lits x).map AV.lit) (Z:Nat→Prop) (w:World) (ys:List κ):Rows c Z w ys (flatK lits c.sz ys.toArray).toList:=by
 intro i x hx
 have hi:i<ys.length:=(List.getElem?_eq_some_iff.1 hx).1
 refine ⟨lits x,by rw [hl];exact allP_of_lits _,fun q u hq=>?_⟩
 have hql:q<c.sz:=by rw [← lits_len hl x];exact (List.getElem?_eq_some_iff.1 hq).1
 have hj:i*c.sz+q<ys.length*c.sz:=by
  have:=Nat.mul_le_mul_right c.sz (show i+1≤ys.length from hi)
  rw [Nat.add_mul] at this;omega
 have h1:(i*c.sz+q) / c.sz=i:=by rw [Nat.mul_comm,Nat.mul_add_div c.pos,Nat.div_eq_of_lt hql,Nat.add_zero]
 have h2:(i*c.sz+q) % c.sz=q:=by rw [Nat.mul_comm,Nat.mul_add_mod,Nat.mod_eq_of_lt hql]
 have:=get_flatK lits c.sz ys.toArray (i*c.sz+q) (by simpa using hj)
 rw [h1,h2] at this
 have hsz:i*c.sz+q<(flatK lits c.sz ys.toArray).toList.length:=by simpa using hj
 rw [List.getElem?_eq_getElem hsz]
 rw [getElem!_pos _ _ (by simpa using hj)] at this
 simp only [Array.getElem_toList,this]
 obtain ⟨hq1,hq2⟩:=List.getElem?_eq_some_iff.1 hq
 have hxi:ys[i]=x:=(List.getElem?_eq_some_iff.1 hx).2
 simp [hi,hxi,hq1,hq2]
end
end S
namespace S
open Go.RowKit Go.Sort
set_option linter.unusedVariables false
set_option linter.unusedSimpArgs false
set_option linter.unusedSectionVars false
def SortedBy {κ:Type} [Inhabited κ] (cf:κ→κ→Int) (ys:List κ):Prop:=SortedIn (ltOf cf) 0 ys.length ys.toArray
set_option maxHeartbeats 1000000 in
theorem sortFn {P:Program} {ρ:Go.Shelf.Ren} (L:SlLaysF0.n6 P ρ) {κ:Type} [Inhabited κ] {c:Co κ} {lits:κ→List Value} (hl:∀ x,c.e x=(lits x).map AV.lit) (h1:∀ x,∀ v ∈ lits x,v.oneCell'=true)
  (gE:IsAgg P (ρ.t 24) true) (zE:SizeIs P (ρ.t 24) c.sz) {cf:κ→κ→Int} (hO:SWO (ltOf cf)) {gc:Nat} (hgc:Ent P gc) (hcmp:∀ x y,Pure P gc [.agg (c.e x),.agg (c.e y)] (some (cf x y)) fun r=>Ai .i64 r) {v:Value} {xs:List κ} (hlen:xs.length<4611686018427387904) :
  Spec P (ρ.f 6) [.sv v,.lit (.func (.func gc) #[] #[])] [.own (ρ.t 24) c v xs] fun a H=>∃ ys,ys.Perm xs∧SortedBy cf ys∧H=[.own (ρ.t 24) c v ys]:=by
 intro w F Z vs hvs hi
 cases hvs with
 | @cons _ u _ vs' hu hvs' =>
 cases hvs' with
 | @cons _ fv _ vs'' hfv hvs'' =>
 cases hvs''
 obtain ⟨rfl,_⟩:=hu
 have hfv':fv = .func (.func gc) #[] #[]:=hfv
 subst hfv'
 obtain ⟨F1,hown,hF1⟩:=hi.res.at (j:=0) rfl
 obtain ⟨A,m,hv⟩:=own_sv hown
 by_cases hx:xs=[]
 ·subst hx
  rw [hv]
  refine (AnyF.slices_SortFunc_none L A m (.func (.func gc) #[] #[]) w).mono ?_
  rintro e w' ⟨rfl,rfl⟩
  rw [← hv]
  exact ⟨_,rfl,F,Z,.any,_,⟨[],List.Perm.refl _,fun i j _ _ h=>by simp at h,rfl⟩,hi,trivial⟩
 have hx0:xs.length≠0:=fun h=>hx (List.length_eq_zero_iff.1 h)
 obtain ⟨cs,⟨hcl,hor⟩,hb,hrows⟩ | ⟨rfl,_⟩:=hown
 case inr=>exact absurd rfl hx
 rcases hor with ⟨_,hn0⟩ | ⟨g,cap,cur,hvg,hg,⟨fz,hh,hfz⟩,hcap,hmx,hcs,htk⟩
 ·exact absurd hn0 hx0
 have hgl:g<w.heap.size:=(Array.getElem?_eq_some_iff.1 hh).1
 have hnk:xs.length*c.sz≤cap*c.sz:=Nat.mul_le_mul_right _ hcap
 have hcell:∀ j,j<xs.length*c.sz→cur[j]?=some ((flatK lits c.sz xs.toArray)[j]!):=fun j hj=>by
  have:=own_lits hl hrows j hj
  rw [← htk,List.getElem?_take,if_pos hj] at this
  simpa using this
 have hH:HoldsK lits c.sz w g 0 xs.toArray:=by
  intro j hj
  rw [size_flatK] at hj
  have hj':j<xs.length*c.sz:=by simpa using hj
  refine ⟨?_,?_⟩
  ·simp only [World.cell?,hh,Nat.zero_add]
   simpa using hcell j hj'
  ·simp only [World.frozen?,hh,Nat.zero_add]
   rcases hfz with rfl | hfz
   ·simp
   ·have:¬ fz.1≤j:=by omega
    simp [this]
 have hcall:=AnyQ.slices_SortFunc L c.sz gE zE lits (lits_len hl) h1 cf hO gc #[] g 0 cap xs.toArray w hgc (cmpLays_of hl hcmp g 0 xs.toArray.size w) hH hgl (by simpa using hlen)
 rw [show (xs.toArray.size)=xs.length from by simp,← hvg] at hcall
 refine hcall.mono ?_
 rintro e w' ⟨rfl,d',n,os,hperm,hsort,rfl⟩
 have hds:d'.size=xs.length:=by simpa using hperm.1
 have hpl:d'.toList.Perm xs:=by
  have:=(show (d'.extract 0 xs.length).toList.Perm (xs.toArray.extract 0 xs.length).toList from by simpa [hds] using hperm.2.2)
  rw [show d'.extract 0 xs.length=d' from by rw [← hds];exact Array.extract_size,show xs.toArray.extract 0 xs.length=xs.toArray from by rw [show xs.length=xs.toArray.size from by simp];exact Array.extract_size] at this
  simpa using this
 obtain ⟨F',hi',hk⟩:=hi.turn (w':=sortWorldK lits c.sz w g 0 n d' os) (r':=.own (ρ.t 24) c u d'.toList) (j:=0) rfl fun F1 hown1 hz1=>by
  have hg1:F1 g:=by
   obtain ⟨_,_,hb1,_⟩ | ⟨rfl,_⟩:=hown1
   ·exact hb1 g (by rw [hvg];rfl)
   ·exact absurd rfl hx
  refine ⟨F1,⟨rfl,rfl,rfl,Nat.le_add_right _ _,by simp [sortWorldK,grow,putRowK,putRow,mapBlock,ahead],fun b hbl hnb=>?_⟩,.inl ⟨(flatK lits c.sz d').toList,⟨by simp [hds],.inr ⟨g,cap,putCells id 0 (flatK lits c.sz d') cur,by simpa [hds] using hvg,Nat.zero_le _,⟨fz,?_,by simpa [putCells] using hfz⟩,by simpa [hds] using hcap,hmx,by simpa [putCells] using hcs,?_⟩⟩,fun b hb'=>?_,?_⟩,fun _ h=>.inl h⟩
  ·have hne:g≠b:=fun e=>hnb (e ▸ hg1)
   simp only [sortWorldK,grow,putRowK,putRow,mapBlock,ahead]
   rw [Array.getElem?_append_left (by simpa using hbl),Array.getElem?_modify,if_neg hne]
   rfl
  ·simp only [sortWorldK,grow,putRowK,putRow,mapBlock,ahead]
   rw [Array.getElem?_append_left (by simpa using hgl),Array.getElem?_modify,if_pos rfl,show (Sort.ahead w n).heap=w.heap from rfl,hh]
   rfl
  ·apply List.ext_getElem?
   intro j
   have hsz:(flatK lits c.sz d').size=xs.length*c.sz:=by simp [hds]
   rw [List.getElem?_take]
   simp only [Array.length_toList,hds]
   split
   ·rename_i hj
    simp only [Array.getElem?_toList,putCells,Array.getElem?_mapIdx,Nat.zero_add,Nat.zero_le,true_and,Nat.sub_zero,hsz,hj,if_true,hcell j hj,Option.map_some,id]
    rw [Array.getElem?_eq_getElem (by omega),getElem!_pos _ _ (by omega)]
   ·rename_i hj
    rw [List.getElem?_eq_none (by simp [hds];omega)]
  ·have:b=g:=by rw [hvg] at hb';simpa [Value.ownBlock] using hb'.symm
   subst this;exact hg1
  ·have:=rows_flat hl Z (sortWorldK lits c.sz w g 0 n d' os) d'.toList
   simpa using this
 exact ⟨_,rfl,F',Z,.any,_,⟨d'.toList,hpl,by unfold SortedBy;simpa [hds] using hsort,rfl⟩,hi',trivial⟩
end S
namespace S
open Go.RowKit Go.Sort
set_option linter.unusedVariables false
set_option linter.unusedSectionVars false
section
variable {κ:Type} [Inhabited κ] {cf:κ→κ→Int}
def sortL (cf:κ→κ→Int) (ks:List κ):List κ:=ks.mergeSort fun x y=>!(ltOf cf y x)
theorem sortedBy_pairwise {ys:List κ} (h:SortedBy cf ys):ys.Pairwise fun x y=>(!(ltOf cf y x))=true:=by
 rw [List.pairwise_iff_getElem]
 intro i j hi hj hij
 have:=h i j (Nat.zero_le _) hij hj
 simpa [hi,hj] using this
theorem perm_unique {r:κ→κ→Prop} (ha:∀ x y,r x y→r y x→x=y):∀ {ys zs:List κ},ys.Perm zs→ys.Pairwise r→zs.Pairwise r→ys=zs
 | [],zs,hp,_,_=>by rw [List.nil_perm.1 hp]
 | y::ys,[],hp,_,_=>by have:=hp.length_eq;simp at this
 | y::ys,z::zs,hp,h1,h2=>by
  obtain ⟨h1a,h1b⟩:=List.pairwise_cons.1 h1
  obtain ⟨h2a,h2b⟩:=List.pairwise_cons.1 h2
  have hyz:y=z:=by
   have hy:y ∈ z::zs:=hp.subset (.head _)
   have hz:z ∈ y::ys:=hp.symm.subset (.head _)
   rcases List.mem_cons.1 hy with e | hy
   ·exact e
   rcases List.mem_cons.1 hz with e | hz
   ·exact e.symm
   exact ha _ _ (h1a z hz) (h2a y hy)
  subst hyz
  rw [perm_unique ha (List.Perm.cons_inv hp) h1b h2b]
theorem sortL_is (hO:SWO (ltOf cf)) (ha:∀ x y,ltOf cf x y=false→ltOf cf y x=false→x=y) {ys ks:List κ} (hp:ys.Perm ks) (hs:SortedBy cf ys):ys=sortL cf ks:=by
 refine perm_unique (r:=fun x y=>(!(ltOf cf y x))=true) (fun x y h1 h2=>ha x y (by simpa using h2) (by simpa using h1)) (hp.trans (List.mergeSort_perm _ _).symm) (sortedBy_pairwise hs) ?_
 refine List.pairwise_mergeSort (fun a b c h1 h2=>?_) (fun a b=>?_) _
 ·have:=hO.ntrans c b a (by simpa using h2) (by simpa using h1)
  simpa using this
 ·by_cases h:ltOf cf b a=true
  ·have:ltOf cf a b=false:=by
    cases hab:ltOf cf a b with
    | false=>rfl
    | true=>have:=hO.trans _ _ _ h hab;rw [hO.irrefl] at this;cases this
   simp [this]
  ·simp [h]
end
end S
namespace S
set_option linter.unusedVariables false
set_option linter.unusedSimpArgs false
theorem wr {a:Int} (h0:-9223372036854775808≤a) (h1:a≤9223372036854775807):IntKind.wrap .i64 a=a:=by rw [IntKind.wrap_i64];omega
theorem wb {a:Int} (h0:0≤a) (h1:a<256):IntKind.wrap .u8 a=a:=by rw [IntKind.wrap_u8];omega
theorem rounds {σ ρ:Type} {L:Nat→σ→Option ρ} (I:σ→Prop) (μ:σ→Nat) (Q:ρ→Prop)
  (step:∀ s m,I s→(∃ r,L (m+1) s=some r∧Q r)∨∃ s',I s'∧μ s'<μ s∧L (m+1) s=L m s'):∀ m s,I s→μ s<m→∃ r,L m s=some r∧Q r:=by
 intro m
 induction m with
 | zero=>intro s _ h;exact absurd h (Nat.not_lt_zero _)
 | succ m ih =>
  intro s hi hm
  rcases step s m hi with h | ⟨s',hi',hlt,he⟩
  ·exact h
  ·obtain ⟨r,h1,h2⟩:=ih s' hi' (by omega)
   exact ⟨r,he.trans h1,h2⟩
variable {T:Type} [Inhabited T]
theorem rd_nat (xs:List T) (i:Nat):rd xs (i:Int)=xs.getD i default:=rfl
theorem rd_set {xs:List T} {i j:Nat} (x:T) (hi:i<xs.length):rd (xs.set i x) (j:Int)=if i=j then x else rd xs (j:Int):=by
 simp only [rd,Int.toNat_natCast,List.getD_eq_getElem?_getD,List.getElem?_set]
 by_cases e:i=j
 ·subst e;simp [hi]
 ·simp [e]
theorem rd_mem {xs:List T} {i:Int} (h0:0≤i) (h:i<xs.length):rd xs i ∈ xs:=List.mem_of_getElem? (rd_get h0 h)
theorem rd_rep {n i:Nat} (x:T) (h:i<n):rd (List.replicate n x) (i:Int)=x:=by simp [rd,List.getD_eq_getElem?_getD,h]
end S
open S
set_option linter.unusedVariables false
def firstOf {ρ:Type} (B:Nat→Option ρ):Nat→Nat→Option ρ
 | 0,_=>none
 | k+1,i=>match B i with | some r=>some r | none=>firstOf B k (i+1)
theorem firstOf_none {ρ:Type} {B:Nat→Option ρ}:∀ {k i:Nat},firstOf B k i=none↔∀ j,i≤j→j<i+k→B j=none
 | 0,i=>⟨fun _ j h1 h2=>by omega,fun _=>rfl⟩
 | k+1,i=>by
  unfold firstOf
  constructor
  ·intro h j h1 h2
   split at h
   ·cases h
   ·rename_i hb
    rcases Nat.eq_or_lt_of_le h1 with rfl | h1
    ·exact hb
    ·exact firstOf_none.1 h j (by omega) (by omega)
  ·intro h
   rw [h i (Nat.le_refl _) (by omega)]
   exact firstOf_none.2 fun j h1 h2=>h j (by omega) (by omega)
theorem firstOf_some {ρ:Type} {B:Nat→Option ρ} {r:ρ}:∀ {k i:Nat},firstOf B k i=some r→∃ j,i≤j∧j<i+k∧B j=some r∧∀ q,i≤q→q<j→B q=none
 | 0,i,h=>by cases h
 | k+1,i,h=>by
  unfold firstOf at h
  split at h
  ·rename_i hb;cases h;exact ⟨i,Nat.le_refl _,by omega,hb,fun q h1 h2=>by omega⟩
  ·rename_i hb
   obtain ⟨j,h1,h2,h3,h4⟩:=firstOf_some h
   exact ⟨j,by omega,by omega,h3,fun q q1 q2=>by
    rcases Nat.eq_or_lt_of_le q1 with rfl | q1
    ·exact hb
    ·exact h4 q (by omega) q2⟩
theorem scan {ρ:Type} (n:Nat) (L:Nat→Int→Option (Int ⊕ ρ)) (B:Nat→Option ρ)
  (step:∀ m i,i<n→L (m+1) (i:Int)=match B i with | some r=>some (.inr r) | none=>L m ((i:Int)+1))
  (stop:∀ m,L (m+1) (n:Int)=some (.inl (n:Int))):∀ k i m,i+k=n→k<m→L m (i:Int)=some (match firstOf B k i with | some r=>.inr r | none=>.inl (n:Int)):=by
 intro k
 induction k with
 | zero =>
  intro i m hi hm
  obtain ⟨m,rfl⟩:∃ q,m=q+1:=⟨m-1,by omega⟩
  have:i=n:=by omega
  subst this
  exact stop m
 | succ k ih =>
  intro i m hi hm
  obtain ⟨m,rfl⟩:∃ q,m=q+1:=⟨m-1,by omega⟩
  rw [step m i (by omega)]
  unfold firstOf
  cases B i with
  | some r=>rfl
  | none=>simpa using ih (i+1) m (by omega) (by omega)
structure Symbol where
 Name:Int
 Lo:Int
 Hi:Int
 deriving DecidableEq
def zSymbol:Symbol:=⟨(0:Int),(0:Int),(0:Int)⟩
instance:Inhabited Symbol:=⟨zSymbol⟩
def cSymbol:Co Symbol:=⟨fun x=>[Ai .i64 x.Name,Ai .i64 x.Lo,Ai .i64 x.Hi],3,by decide,fun _=>rfl,fun _=>⟨oLit rfl,oLit rfl,oLit rfl,trivial⟩⟩
structure Conjunct where
 Neg:Bool
 Seq:(List Symbol)
 deriving DecidableEq
def zConjunct:Conjunct:=⟨false,([]:(List Symbol))⟩
instance:Inhabited Conjunct:=⟨zConjunct⟩
def cConjunct:Co Conjunct:=⟨fun x=>[Ab x.Neg,.fsl cSymbol x.Seq],2,by decide,fun _=>rfl,fun _=>⟨oLit rfl,oFsl,trivial⟩⟩
structure Rule where
 Head:Int
 Conj:(List Conjunct)
 deriving DecidableEq
def zRule:Rule:=⟨(0:Int),([]:(List Conjunct))⟩
instance:Inhabited Rule:=⟨zRule⟩
def cRule:Co Rule:=⟨fun x=>[Ai .i64 x.Head,.fsl cConjunct x.Conj],2,by decide,fun _=>rfl,fun _=>⟨oLit rfl,oFsl,trivial⟩⟩
structure Grammar where
 Start:Int
 Names:(List ByteArray)
 Rules:(List Rule)
 deriving DecidableEq
def zGrammar:Grammar:=⟨(0:Int),([]:(List ByteArray)),([]:(List Rule))⟩
instance:Inhabited Grammar:=⟨zGrammar⟩
def cGrammar:Co Grammar:=⟨fun x=>[Ai .i64 x.Start,.fsl cS x.Names,.fsl cRule x.Rules],3,by decide,fun _=>rfl,fun _=>⟨oLit rfl,oFsl,oFsl,trivial⟩⟩
structure Place where
 Rule:Int
 Conj:Int
 Pos:Int
 deriving DecidableEq
def zPlace:Place:=⟨(0:Int),(0:Int),(0:Int)⟩
instance:Inhabited Place:=⟨zPlace⟩
def cPlace:Co Place:=⟨fun x=>[Ai .i64 x.Rule,Ai .i64 x.Conj,Ai .i64 x.Pos],3,by decide,fun _=>rfl,fun _=>⟨oLit rfl,oLit rfl,oLit rfl,trivial⟩⟩
structure Move where
 From:Int
 Symbol:Symbol
 To:Int
 deriving DecidableEq
def zMove:Move:=⟨(0:Int),(zSymbol:Symbol),(0:Int)⟩
instance:Inhabited Move:=⟨zMove⟩
def cMove:Co Move:=⟨fun x=>[Ai .i64 x.From,Ai .i64 x.Symbol.Name,Ai .i64 x.Symbol.Lo,Ai .i64 x.Symbol.Hi,Ai .i64 x.To],5,by decide,fun _=>rfl,fun _=>⟨oLit rfl,oLit rfl,oLit rfl,oLit rfl,oLit rfl,trivial⟩⟩
structure Automaton where
 States:(List (List Place))
 Moves:(List Move)
 deriving DecidableEq
def zAutomaton:Automaton:=⟨([]:(List (List Place))),([]:(List Move))⟩
instance:Inhabited Automaton:=⟨zAutomaton⟩
def cAutomaton:Co Automaton:=⟨fun x=>[.fsl (cL cPlace) x.States,.fsl cMove x.Moves],2,by decide,fun _=>rfl,fun _=>⟨oFsl,oFsl,trivial⟩⟩
structure Items_builder where
 g:Grammar
 a:Automaton
 by_:(List (ByteArray×Int))
 deriving DecidableEq
structure Edge where
 From:Int
 To:Int
 Neg:Bool
 deriving DecidableEq
def zEdge:Edge:=⟨(0:Int),(0:Int),false⟩
instance:Inhabited Edge:=⟨zEdge⟩
def Qc (x:Symbol):Prop:=(wfI .i64) x.Name∧(wfI .i64) x.Lo∧(wfI .i64) x.Hi
def Mb (x:Conjunct):Prop:=wfB x.Neg∧(wfL Qc 24) x.Seq
def wd (x:Rule):Prop:=(wfI .i64) x.Head∧(wfL Mb 32) x.Conj
def fb (x:Grammar):Prop:=(wfI .i64) x.Start∧(wfL wfS 16) x.Names∧(wfL wd 32) x.Rules
def Wc (x:Place):Prop:=(wfI .i64) x.Rule∧(wfI .i64) x.Conj∧(wfI .i64) x.Pos
def cConjunctG:Co (Conjunct×Value):=⟨fun x=>[Ab x.1.Neg,.sv x.2],2,by decide,fun _=>rfl,fun _=>⟨oLit rfl,oSv,trivial⟩⟩
abbrev j6:Tg Conjunct:=⟨Value,58,cConjunctG,cConjunct,fun x u=>[.own 51 cSymbol u x.Seq],rfl,fun hc h=>lend_ok (.k (.o 0 rfl (.n))) hc h⟩
def cRuleG:Co (Rule×(Value×List Value)):=⟨fun x=>[Ai .i64 x.1.Head,.sv x.2.1],2,by decide,fun _=>rfl,fun _=>⟨oLit rfl,oSv,trivial⟩⟩
abbrev P7:Tg Rule:=⟨(Value×List Value),61,cRuleG,cRule,fun x u=>[.trg j6 u.1 x.Conj u.2 none],rfl,fun hc h=>lend_ok (.k (.x (lendG (D:=j6) 0 rfl) (.n))) hc h⟩
theorem al25:∀ w,(Instr.alloc 25 true (.tuple #[])).run Try.prog w = .ok (.pointer (some ⟨w.heap.size,0,none⟩)) (w.alloc (.cells ([.int .i64 0,.slice none 0 0,.slice none 0 0]:List Value).toArray 25)):=fun _=>by kernel_rfl
theorem fa25_0:FA Try.prog 25 0 0:=fun _ _=>by kernel_rfl
theorem g3:IsAgg Try.prog 3 false:=fun _=>by kernel_rfl
theorem z9:SizeIs Try.prog 9 1:=fun _=>by kernel_rfl
theorem Pb:Info Try.prog 9 (.string ⟨#[]⟩) 1 16:=by unfold Info;kernel_rfl
theorem fa25_1:FA Try.prog 25 1 1:=fun _ _=>by kernel_rfl
theorem g22:IsAgg Try.prog 22 false:=fun _=>by kernel_rfl
theorem mixed:Try.prog.follows .mixedOrders=true:=by kernel_rfl
theorem zv25:∀ w,(zeroValue 25).run Try.prog w = .ok (.agg ([.int .i64 0,.slice none 0 0,.slice none 0 0]:List Value).toArray) w:=fun _=>by kernel_rfl
theorem pl25:∀ w,((#[{ name := "Start",type:=3,offset:=0,embedded:=false,tag := "",pkgPath := "",byteOffset:=0 },{ name := "Names",type:=22,offset:=1,embedded:=false,tag := "",pkgPath := "",byteOffset:=8 },{ name := "Rules",type:=23,offset:=2,embedded:=false,tag := "",pkgPath := "",byteOffset:=32 }]:Array Field).mapM (m:=Sem) fun f=>do pure (f.offset,← sizeOf f.type)).run Try.prog w = .ok #[(0,1),(1,1),(2,1)] w:=fun _=>by kernel_rfl
theorem z25:SizeIs Try.prog 25 3:=fun _=>by kernel_rfl
theorem fa25_2:FA Try.prog 25 2 2:=fun _ _=>by kernel_rfl
theorem g23:IsAgg Try.prog 23 false:=fun _=>by kernel_rfl
theorem z61:SizeIs Try.prog 61 2:=fun _=>by kernel_rfl
theorem fa61_0:FA Try.prog 61 0 0:=fun _ _=>by kernel_rfl
theorem zv61:∀ w,(zeroValue 61).run Try.prog w = .ok (.agg ([.int .i64 0,.slice none 0 0]:List Value).toArray) w:=fun _=>by kernel_rfl
theorem pl61:∀ w,((#[{ name := "Head",type:=3,offset:=0,embedded:=false,tag := "",pkgPath := "",byteOffset:=0 },{ name := "Conj",type:=59,offset:=1,embedded:=false,tag := "",pkgPath := "",byteOffset:=8 }]:Array Field).mapM (m:=Sem) fun f=>do pure (f.offset,← sizeOf f.type)).run Try.prog w = .ok #[(0,1),(1,1)] w:=fun _=>by kernel_rfl
theorem al61:∀ w,(Instr.alloc 61 true (.tuple #[])).run Try.prog w = .ok (.pointer (some ⟨w.heap.size,0,none⟩)) (w.alloc (.cells ([.int .i64 0,.slice none 0 0]:List Value).toArray 61)):=fun _=>by kernel_rfl
theorem fa61_1:FA Try.prog 61 1 1:=fun _ _=>by kernel_rfl
theorem g59:IsAgg Try.prog 59 false:=fun _=>by kernel_rfl
theorem z58:SizeIs Try.prog 58 2:=fun _=>by kernel_rfl
theorem g58:IsAgg Try.prog 58 true:=fun _=>by kernel_rfl
theorem al58:∀ w,(Instr.alloc 58 true (.tuple #[])).run Try.prog w = .ok (.pointer (some ⟨w.heap.size,0,none⟩)) (w.alloc (.cells ([.bool false,.slice none 0 0]:List Value).toArray 58)):=fun _=>by kernel_rfl
theorem fa58_0:FA Try.prog 58 0 0:=fun _ _=>by kernel_rfl
theorem g4:IsAgg Try.prog 4 false:=fun _=>by kernel_rfl
theorem z51:SizeIs Try.prog 51 3:=fun _=>by kernel_rfl
theorem jb:Info Try.prog 51 (.agg #[.int .i64 0,.int .i64 0,.int .i64 0]) 3 24:=by unfold Info;kernel_rfl
theorem fa58_1:FA Try.prog 58 1 1:=fun _ _=>by kernel_rfl
theorem g56:IsAgg Try.prog 56 false:=fun _=>by kernel_rfl
theorem zv58:∀ w,(zeroValue 58).run Try.prog w = .ok (.agg ([.bool false,.slice none 0 0]:List Value).toArray) w:=fun _=>by kernel_rfl
theorem pl58:∀ w,((#[{ name := "Neg",type:=4,offset:=0,embedded:=false,tag := "",pkgPath := "",byteOffset:=0 },{ name := "Seq",type:=56,offset:=1,embedded:=false,tag := "",pkgPath := "",byteOffset:=8 }]:Array Field).mapM (m:=Sem) fun f=>do pure (f.offset,← sizeOf f.type)).run Try.prog w = .ok #[(0,1),(1,1)] w:=fun _=>by kernel_rfl
theorem vc:Info Try.prog 58 (.agg #[.bool false,.slice none 0 0]) 2 32:=by unfold Info;kernel_rfl
theorem z59:SizeIs Try.prog 59 1:=fun _=>by kernel_rfl
theorem g61:IsAgg Try.prog 61 true:=fun _=>by kernel_rfl
theorem Mc:Info Try.prog 61 (.agg #[.int .i64 0,.slice none 0 0]) 2 32:=by unfold Info;kernel_rfl
theorem z23:SizeIs Try.prog 23 1:=fun _=>by kernel_rfl
theorem g25:IsAgg Try.prog 25 true:=fun _=>by kernel_rfl
theorem z55:SizeIs Try.prog 55 3:=fun _=>by kernel_rfl
theorem z7:Info Try.prog 55 (.agg #[.int .i64 0,.int .i64 0,.int .i64 0]) 3 24:=by unfold Info;kernel_rfl
theorem ent26:Ent Try.prog 26:=fun _ _=>by kernel_rfl
theorem zv55:∀ w,(zeroValue 55).run Try.prog w = .ok (.agg ([.int .i64 0,.int .i64 0,.int .i64 0]:List Value).toArray) w:=fun _=>by kernel_rfl
theorem pl55:∀ w,((#[{ name := "Rule",type:=3,offset:=0,embedded:=false,tag := "",pkgPath := "",byteOffset:=0 },{ name := "Conj",type:=3,offset:=1,embedded:=false,tag := "",pkgPath := "",byteOffset:=8 },{ name := "Pos",type:=3,offset:=2,embedded:=false,tag := "",pkgPath := "",byteOffset:=16 }]:Array Field).mapM (m:=Sem) fun f=>do pure (f.offset,← sizeOf f.type)).run Try.prog w = .ok #[(0,1),(1,1),(2,1)] w:=fun _=>by kernel_rfl
theorem ent74:Ent Try.prog 74:=fun _ _=>by kernel_rfl
theorem ent75:Ent Try.prog 75:=fun _ _=>by kernel_rfl
theorem g9:IsAgg Try.prog 9 false:=fun _=>by kernel_rfl
theorem ent66:Ent Try.prog 66:=fun _ _=>by kernel_rfl
theorem mk9:MK Try.prog 9 (fun x:ByteArray=>Value.string x):=mkStr Try.underlying9
theorem zv4:∀ w,(zeroValue 4).run Try.prog w = .ok (.bool false) w:=fun _=>by kernel_rfl
theorem fa51_0:FA Try.prog 51 0 0:=fun _ _=>by kernel_rfl
theorem fa51_1:FA Try.prog 51 1 1:=fun _ _=>by kernel_rfl
theorem fa51_2:FA Try.prog 51 2 2:=fun _ _=>by kernel_rfl
theorem g51:IsAgg Try.prog 51 true:=fun _=>by kernel_rfl
theorem al51:∀ w,(Instr.alloc 51 true (.tuple #[])).run Try.prog w = .ok (.pointer (some ⟨w.heap.size,0,none⟩)) (w.alloc (.cells ([.int .i64 0,.int .i64 0,.int .i64 0]:List Value).toArray 51)):=fun _=>by kernel_rfl
theorem ent67:Ent Try.prog 67:=fun _ _=>by kernel_rfl
theorem ent49:Ent Try.prog 49:=fun _ _=>by kernel_rfl
theorem ent50:Ent Try.prog 50:=fun _ _=>by kernel_rfl
theorem fa55_0:FA Try.prog 55 0 0:=fun _ _=>by kernel_rfl
theorem fa55_1:FA Try.prog 55 1 1:=fun _ _=>by kernel_rfl
theorem fa55_2:FA Try.prog 55 2 2:=fun _ _=>by kernel_rfl
theorem g55:IsAgg Try.prog 55 true:=fun _=>by kernel_rfl
theorem ent30:Ent Try.prog 30:=fun _ _=>by kernel_rfl
theorem zv51:∀ w,(zeroValue 51).run Try.prog w = .ok (.agg ([.int .i64 0,.int .i64 0,.int .i64 0]:List Value).toArray) w:=fun _=>by kernel_rfl
theorem pl51:∀ w,((#[{ name := "Name",type:=3,offset:=0,embedded:=false,tag := "",pkgPath := "",byteOffset:=0 },{ name := "Lo",type:=3,offset:=1,embedded:=false,tag := "",pkgPath := "",byteOffset:=8 },{ name := "Hi",type:=3,offset:=2,embedded:=false,tag := "",pkgPath := "",byteOffset:=16 }]:Array Field).mapM (m:=Sem) fun f=>do pure (f.offset,← sizeOf f.type)).run Try.prog w = .ok #[(0,1),(1,1),(2,1)] w:=fun _=>by kernel_rfl
theorem ent79:Ent Try.prog 79:=fun _ _=>by kernel_rfl
theorem z3:SizeIs Try.prog 3 1:=fun _=>by kernel_rfl
theorem ent72:Ent Try.prog 72:=fun _ _=>by kernel_rfl
theorem cg:Info Try.prog 3 (.int .i64 0) 1 8:=by unfold Info;kernel_rfl
theorem ent71:Ent Try.prog 71:=fun _ _=>by kernel_rfl
def litsPlace (x:Place):List Value:=[.int .i64 x.Rule,.int .i64 x.Conj,.int .i64 x.Pos]
def kvPlace (x:Place):Value:=.agg (litsPlace x).toArray
theorem ent52:Ent Try.prog 52:=fun _ _=>by kernel_rfl
theorem al55:∀ w,(Instr.alloc 55 true (.tuple #[])).run Try.prog w = .ok (.pointer (some ⟨w.heap.size,0,none⟩)) (w.alloc (.cells ([.int .i64 0,.int .i64 0,.int .i64 0]:List Value).toArray 55)):=fun _=>by kernel_rfl
theorem eqi55 {d:Nat} (w:World) (x y:Place):(Op.equalIn (d+2) 55 (.agg (litsPlace x).toArray) (.agg (litsPlace y).toArray)).run Try.prog w = .ok (decide (x=y)) w:=by
 have hu:Try.prog.underlying 55=some (.struct (Try.prog.fieldsOf 55)):=by kernel_rfl
 have hp:Try.prog.stoodInHeld 55=false:=by kernel_rfl
 have hf:(Try.prog.fieldsOf 55).toList=[{ name := "Rule",type:=3,offset:=0,embedded:=false,tag := "",pkgPath := "",byteOffset:=0 },{ name := "Conj",type:=3,offset:=1,embedded:=false,tag := "",pkgPath := "",byteOffset:=8 },{ name := "Pos",type:=3,offset:=2,embedded:=false,tag := "",pkgPath := "",byteOffset:=16 }]:=by kernel_rfl
 rw [run_equalIn_struct w _ 55 _ _ hu hp,hf]
 rw [eqF_int (f:={ name := "Rule",type:=3,offset:=0,embedded:=false,tag := "",pkgPath := "",byteOffset:=0 }) (a:=x.Rule) (b:=y.Rule) (by decide +kernel) g3 Try.underlying3 rfl rfl,eqF_int (f:={ name := "Conj",type:=3,offset:=1,embedded:=false,tag := "",pkgPath := "",byteOffset:=8 }) (a:=x.Conj) (b:=y.Conj) (by decide +kernel) g3 Try.underlying3 rfl rfl,eqF_int (f:={ name := "Pos",type:=3,offset:=2,embedded:=false,tag := "",pkgPath := "",byteOffset:=16 }) (a:=x.Pos) (b:=y.Pos) (by decide +kernel) g3 Try.underlying3 rfl rfl,eqF_nil]
 simp only [ok_ite]
 exact congrArg (fun b=>Result.ok b w) (decide_eq_decide.2 ⟨fun h=>by cases x;cases y;simp_all,fun h=>by subst h;simp⟩)
theorem ck55 (w:World) (em:Bool) (x:Place):(Instr.checkKey em 10000 55 (kvPlace x)).run Try.prog w = .ok () w:=by
 have hu:Try.prog.underlying 55=some (.struct (Try.prog.fieldsOf 55)):=by kernel_rfl
 have hf:(Try.prog.fieldsOf 55).toList=[{ name := "Rule",type:=3,offset:=0,embedded:=false,tag := "",pkgPath := "",byteOffset:=0 },{ name := "Conj",type:=3,offset:=1,embedded:=false,tag := "",pkgPath := "",byteOffset:=8 },{ name := "Pos",type:=3,offset:=2,embedded:=false,tag := "",pkgPath := "",byteOffset:=16 }]:=by kernel_rfl
 refine run_check_st (m:=9999) hu ?_
 rw [hf]
 exact ⟨fun _=>⟨_,part_one g3 rfl,Go.MapKept.run_checkKey (k:=.int .i64 x.Rule) Try.underlying3 rfl em 9998⟩,fun _=>⟨_,part_one g3 rfl,Go.MapKept.run_checkKey (k:=.int .i64 x.Conj) Try.underlying3 rfl em 9998⟩,fun _=>⟨_,part_one g3 rfl,Go.MapKept.run_checkKey (k:=.int .i64 x.Pos) Try.underlying3 rfl em 9998⟩,trivial⟩
theorem mk55:MK Try.prog 55 kvPlace:=mkSt (by kernel_rfl) (fun a b h=>by cases a;cases b;simp [litsPlace] at h;simp [h]) ck55 (fun w x y=>eqi55 (d:=9998) w x y) (fun x v hv=>by simp [litsPlace] at hv;rcases hv with rfl | rfl | rfl <;> simp [Instr.sameBits])
theorem ent53:Ent Try.prog 53:=fun _ _=>by kernel_rfl
theorem mk3:MK Try.prog 3 (fun x:Int=>Value.int .i64 x):=mkInt Try.underlying3
theorem ent35:Ent Try.prog 35:=fun _ _=>by kernel_rfl
theorem ent55:Ent Try.prog 55:=fun _ _=>by kernel_rfl
theorem ent54:Ent Try.prog 54:=fun _ _=>by kernel_rfl
theorem ent27:Ent Try.prog 27:=fun _ _=>by kernel_rfl
theorem ent29:Ent Try.prog 29:=fun _ _=>by kernel_rfl
theorem ent51:Ent Try.prog 51:=fun _ _=>by kernel_rfl
theorem ent28:Ent Try.prog 28:=fun _ _=>by kernel_rfl
theorem ent31:Ent Try.prog 31:=fun _ _=>by kernel_rfl
theorem ent60:Ent Try.prog 60:=fun _ _=>by kernel_rfl
theorem ent61:Ent Try.prog 61:=fun _ _=>by kernel_rfl
theorem ent62:Ent Try.prog 62:=fun _ _=>by kernel_rfl
theorem ent44:Ent Try.prog 44:=fun _ _=>by kernel_rfl
theorem ent45:Ent Try.prog 45:=fun _ _=>by kernel_rfl
theorem ent46:Ent Try.prog 46:=fun _ _=>by kernel_rfl
theorem ent73:Ent Try.prog 73:=fun _ _=>by kernel_rfl
theorem eq55 {n:Nat} {fr:Fr} {H:List Res} {t' ty:TypeId} {a b:Operand} {x y:Place} (hx:arg fr a=some (.agg (cPlace.e x))) (hy:arg fr b=some (.agg (cPlace.e y))):D Try.prog n H (.binOp .eql 55 a b t') ty fr (Ab (decide (x=y))):=Je litsPlace (by kernel_rfl) (fun _=>rfl) (fun w x y=>eqi55 (d:=9998) w x y) hx hy
theorem eq55n {n:Nat} {fr:Fr} {H:List Res} {t' ty:TypeId} {a b:Operand} {x y:Place} (hx:arg fr a=some (.agg (cPlace.e x))) (hy:arg fr b=some (.agg (cPlace.e y))):D Try.prog n H (.binOp .neq 55 a b t') ty fr (Ab (decide (x≠y))):=Md litsPlace (by kernel_rfl) (fun _=>rfl) (fun w x y=>eqi55 (d:=9998) w x y) hx hy
theorem ent57:Ent Try.prog 57:=fun _ _=>by kernel_rfl
theorem bg:Info Try.prog 4 (.bool false) 1 1:=by unfold Info;kernel_rfl
theorem z4:SizeIs Try.prog 4 1:=fun _=>by kernel_rfl
theorem ent37:Ent Try.prog 37:=fun _ _=>by kernel_rfl
theorem ent24:Ent Try.prog 24:=fun _ _=>by kernel_rfl
theorem ent32:Ent Try.prog 32:=fun _ _=>by kernel_rfl
theorem ent33:Ent Try.prog 33:=fun _ _=>by kernel_rfl
theorem z5:SizeIs Try.prog 5 1:=fun _=>by kernel_rfl
theorem ze:Info Try.prog 5 (.int .u8 0) 1 1:=by unfold Info;kernel_rfl
theorem ent58:Ent Try.prog 58:=fun _ _=>by kernel_rfl
theorem fa78_2:FA Try.prog 78 2 3:=fun _ _=>by kernel_rfl
theorem g76:IsAgg Try.prog 76 false:=fun _=>by kernel_rfl
theorem zv3:∀ w,(zeroValue 3).run Try.prog w = .ok (.int .i64 0) w:=fun _=>by kernel_rfl
theorem fa78_1:FA Try.prog 78 1 1:=fun _ _=>by kernel_rfl
theorem fa37_0:FA Try.prog 37 0 0:=fun _ _=>by kernel_rfl
theorem g34:IsAgg Try.prog 34 false:=fun _=>by kernel_rfl
def cLPlaceG:Co ((List Place)×Value):=⟨fun x=>[.sv x.2],1,by decide,fun _=>rfl,fun _=>⟨oSv,trivial⟩⟩
abbrev V3:Tg (List Place):=⟨Value,26,cLPlaceG,(cL cPlace),fun x u=>[.own 55 cPlace u x],rfl,fun hc h=>lend_ok (.o 0 rfl (.n)) hc h⟩
theorem ac {v:Value} {xs:List (List Place)} {us:List Value} {o:Option (Int×Value)}:FlatR (.trg V3 v xs us o):=flTrg (fun _=>⟨flSv,trivial⟩) (fun _ _=>⟨flOwn (c:=cPlace) (fun _=>⟨flLit,flLit,flLit,trivial⟩),trivial⟩)
theorem z26:SizeIs Try.prog 26 1:=fun _=>by kernel_rfl
theorem jc:Info Try.prog 26 (.slice none 0 0) 1 24:=by unfold Info;kernel_rfl
theorem z34:SizeIs Try.prog 34 1:=fun _=>by kernel_rfl
def litsSymbol (x:Symbol):List Value:=[.int .i64 x.Name,.int .i64 x.Lo,.int .i64 x.Hi]
def kvSymbol (x:Symbol):Value:=.agg (litsSymbol x).toArray
theorem g26:IsAgg Try.prog 26 false:=fun _=>by kernel_rfl
theorem fa78_0:FA Try.prog 78 0 0:=fun _ _=>by kernel_rfl
theorem g70:IsAgg Try.prog 70 false:=fun _=>by kernel_rfl
theorem eqi51 {d:Nat} (w:World) (x y:Symbol):(Op.equalIn (d+2) 51 (.agg (litsSymbol x).toArray) (.agg (litsSymbol y).toArray)).run Try.prog w = .ok (decide (x=y)) w:=by
 have hu:Try.prog.underlying 51=some (.struct (Try.prog.fieldsOf 51)):=by kernel_rfl
 have hp:Try.prog.stoodInHeld 51=false:=by kernel_rfl
 have hf:(Try.prog.fieldsOf 51).toList=[{ name := "Name",type:=3,offset:=0,embedded:=false,tag := "",pkgPath := "",byteOffset:=0 },{ name := "Lo",type:=3,offset:=1,embedded:=false,tag := "",pkgPath := "",byteOffset:=8 },{ name := "Hi",type:=3,offset:=2,embedded:=false,tag := "",pkgPath := "",byteOffset:=16 }]:=by kernel_rfl
 rw [run_equalIn_struct w _ 51 _ _ hu hp,hf]
 rw [eqF_int (f:={ name := "Name",type:=3,offset:=0,embedded:=false,tag := "",pkgPath := "",byteOffset:=0 }) (a:=x.Name) (b:=y.Name) (by decide +kernel) g3 Try.underlying3 rfl rfl,eqF_int (f:={ name := "Lo",type:=3,offset:=1,embedded:=false,tag := "",pkgPath := "",byteOffset:=8 }) (a:=x.Lo) (b:=y.Lo) (by decide +kernel) g3 Try.underlying3 rfl rfl,eqF_int (f:={ name := "Hi",type:=3,offset:=2,embedded:=false,tag := "",pkgPath := "",byteOffset:=16 }) (a:=x.Hi) (b:=y.Hi) (by decide +kernel) g3 Try.underlying3 rfl rfl,eqF_nil]
 simp only [ok_ite]
 exact congrArg (fun b=>Result.ok b w) (decide_eq_decide.2 ⟨fun h=>by cases x;cases y;simp_all,fun h=>by subst h;simp⟩)
theorem ck51 (w:World) (em:Bool) (x:Symbol):(Instr.checkKey em 10000 51 (kvSymbol x)).run Try.prog w = .ok () w:=by
 have hu:Try.prog.underlying 51=some (.struct (Try.prog.fieldsOf 51)):=by kernel_rfl
 have hf:(Try.prog.fieldsOf 51).toList=[{ name := "Name",type:=3,offset:=0,embedded:=false,tag := "",pkgPath := "",byteOffset:=0 },{ name := "Lo",type:=3,offset:=1,embedded:=false,tag := "",pkgPath := "",byteOffset:=8 },{ name := "Hi",type:=3,offset:=2,embedded:=false,tag := "",pkgPath := "",byteOffset:=16 }]:=by kernel_rfl
 refine run_check_st (m:=9999) hu ?_
 rw [hf]
 exact ⟨fun _=>⟨_,part_one g3 rfl,Go.MapKept.run_checkKey (k:=.int .i64 x.Name) Try.underlying3 rfl em 9998⟩,fun _=>⟨_,part_one g3 rfl,Go.MapKept.run_checkKey (k:=.int .i64 x.Lo) Try.underlying3 rfl em 9998⟩,fun _=>⟨_,part_one g3 rfl,Go.MapKept.run_checkKey (k:=.int .i64 x.Hi) Try.underlying3 rfl em 9998⟩,trivial⟩
theorem mk51:MK Try.prog 51 kvSymbol:=mkSt (by kernel_rfl) (fun a b h=>by cases a;cases b;simp [litsSymbol] at h;simp [h]) ck51 (fun w x y=>eqi51 (d:=9998) w x y) (fun x v hv=>by simp [litsSymbol] at hv;rcases hv with rfl | rfl | rfl <;> simp [Instr.sameBits])
theorem zv26:∀ w,(zeroValue 26).run Try.prog w = .ok (.slice none 0 0) w:=fun _=>by kernel_rfl
theorem fa37_1:FA Try.prog 37 1 1:=fun _ _=>by kernel_rfl
theorem g35:IsAgg Try.prog 35 false:=fun _=>by kernel_rfl
theorem ent34:Ent Try.prog 34:=fun _ _=>by kernel_rfl
theorem zv53:∀ w,(zeroValue 53).run Try.prog w = .ok (.agg ([.int .i64 0,.int .i64 0,.int .i64 0,.int .i64 0,.int .i64 0]:List Value).toArray) w:=fun _=>by kernel_rfl
theorem pl53:∀ w,((#[{ name := "From",type:=3,offset:=0,embedded:=false,tag := "",pkgPath := "",byteOffset:=0 },{ name := "Symbol",type:=51,offset:=1,embedded:=false,tag := "",pkgPath := "",byteOffset:=8 },{ name := "To",type:=3,offset:=4,embedded:=false,tag := "",pkgPath := "",byteOffset:=32 }]:Array Field).mapM (m:=Sem) fun f=>do pure (f.offset,← sizeOf f.type)).run Try.prog w = .ok #[(0,1),(1,3),(4,1)] w:=fun _=>by kernel_rfl
theorem z53:SizeIs Try.prog 53 5:=fun _=>by kernel_rfl
theorem pc:Info Try.prog 53 (.agg #[.int .i64 0,.int .i64 0,.int .i64 0,.int .i64 0,.int .i64 0]) 5 40:=by unfold Info;kernel_rfl
theorem z35:SizeIs Try.prog 35 1:=fun _=>by kernel_rfl
theorem al37:∀ w,(Instr.alloc 37 true (.tuple #[])).run Try.prog w = .ok (.pointer (some ⟨w.heap.size,0,none⟩)) (w.alloc (.cells ([.slice none 0 0,.slice none 0 0]:List Value).toArray 37)):=fun _=>by kernel_rfl
theorem zv37:∀ w,(zeroValue 37).run Try.prog w = .ok (.agg ([.slice none 0 0,.slice none 0 0]:List Value).toArray) w:=fun _=>by kernel_rfl
theorem pl37:∀ w,((#[{ name := "States",type:=34,offset:=0,embedded:=false,tag := "",pkgPath := "",byteOffset:=0 },{ name := "Moves",type:=35,offset:=1,embedded:=false,tag := "",pkgPath := "",byteOffset:=24 }]:Array Field).mapM (m:=Sem) fun f=>do pure (f.offset,← sizeOf f.type)).run Try.prog w = .ok #[(0,1),(1,1)] w:=fun _=>by kernel_rfl
theorem z37:SizeIs Try.prog 37 2:=fun _=>by kernel_rfl
theorem g37:IsAgg Try.prog 37 true:=fun _=>by kernel_rfl
theorem zv78:∀ w,(zeroValue 78).run Try.prog w = .ok (.agg ([.pointer none,.slice none 0 0,.slice none 0 0,.map none]:List Value).toArray) w:=fun _=>by kernel_rfl
theorem pl78:∀ w,((#[{ name := "g",type:=70,offset:=0,embedded:=false,tag := "",pkgPath := "temple/items",byteOffset:=0 },{ name := "a",type:=37,offset:=1,embedded:=false,tag := "",pkgPath := "temple/items",byteOffset:=8 },{ name := "by",type:=76,offset:=3,embedded:=false,tag := "",pkgPath := "temple/items",byteOffset:=56 }]:Array Field).mapM (m:=Sem) fun f=>do pure (f.offset,← sizeOf f.type)).run Try.prog w = .ok #[(0,1),(1,2),(3,1)] w:=fun _=>by kernel_rfl
theorem ent36:Ent Try.prog 36:=fun _ _=>by kernel_rfl
theorem eq51 {n:Nat} {fr:Fr} {H:List Res} {t' ty:TypeId} {a b:Operand} {x y:Symbol} (hx:arg fr a=some (.agg (cSymbol.e x))) (hy:arg fr b=some (.agg (cSymbol.e y))):D Try.prog n H (.binOp .eql 51 a b t') ty fr (Ab (decide (x=y))):=Je litsSymbol (by kernel_rfl) (fun _=>rfl) (fun w x y=>eqi51 (d:=9998) w x y) hx hy
theorem eq51n {n:Nat} {fr:Fr} {H:List Res} {t' ty:TypeId} {a b:Operand} {x y:Symbol} (hx:arg fr a=some (.agg (cSymbol.e x))) (hy:arg fr b=some (.agg (cSymbol.e y))):D Try.prog n H (.binOp .neq 51 a b t') ty fr (Ab (decide (x≠y))):=Md litsSymbol (by kernel_rfl) (fun _=>rfl) (fun w x y=>eqi51 (d:=9998) w x y) hx hy
theorem ent23:Ent Try.prog 23:=fun _ _=>by kernel_rfl
theorem ent38:Ent Try.prog 38:=fun _ _=>by kernel_rfl
theorem ent39:Ent Try.prog 39:=fun _ _=>by kernel_rfl
theorem ent40:Ent Try.prog 40:=fun _ _=>by kernel_rfl
theorem g53:IsAgg Try.prog 53 true:=fun _=>by kernel_rfl
def litsMove (x:Move):List Value:=[.int .i64 x.From,.int .i64 x.Symbol.Name,.int .i64 x.Symbol.Lo,.int .i64 x.Symbol.Hi,.int .i64 x.To]
theorem eqi53 {d:Nat} (w:World) (x y:Move):(Op.equalIn (d+3) 53 (.agg (litsMove x).toArray) (.agg (litsMove y).toArray)).run Try.prog w = .ok (decide (x=y)) w:=by
 have hu:Try.prog.underlying 53=some (.struct (Try.prog.fieldsOf 53)):=by kernel_rfl
 have hp:Try.prog.stoodInHeld 53=false:=by kernel_rfl
 have hf:(Try.prog.fieldsOf 53).toList=[{ name := "From",type:=3,offset:=0,embedded:=false,tag := "",pkgPath := "",byteOffset:=0 },{ name := "Symbol",type:=51,offset:=1,embedded:=false,tag := "",pkgPath := "",byteOffset:=8 },{ name := "To",type:=3,offset:=4,embedded:=false,tag := "",pkgPath := "",byteOffset:=32 }]:=by kernel_rfl
 rw [run_equalIn_struct w _ 53 _ _ hu hp,hf]
 rw [eqF_int (f:={ name := "From",type:=3,offset:=0,embedded:=false,tag := "",pkgPath := "",byteOffset:=0 }) (a:=x.From) (b:=y.From) (by decide +kernel) g3 Try.underlying3 rfl rfl,eqF_agg (f:={ name := "Symbol",type:=51,offset:=1,embedded:=false,tag := "",pkgPath := "",byteOffset:=8 }) (p:=x.Symbol=y.Symbol) (us:=litsSymbol x.Symbol) (vs:=litsSymbol y.Symbol) (by decide +kernel) g51 z51 rfl rfl (eqi51 w _ _),eqF_int (f:={ name := "To",type:=3,offset:=4,embedded:=false,tag := "",pkgPath := "",byteOffset:=32 }) (a:=x.To) (b:=y.To) (by decide +kernel) g3 Try.underlying3 rfl rfl,eqF_nil]
 simp only [ok_ite]
 exact congrArg (fun b=>Result.ok b w) (decide_eq_decide.2 ⟨fun h=>by cases x;cases y;simp_all,fun h=>by subst h;simp⟩)
theorem eq53n {n:Nat} {fr:Fr} {H:List Res} {t' ty:TypeId} {a b:Operand} {x y:Move} (hx:arg fr a=some (.agg (cMove.e x))) (hy:arg fr b=some (.agg (cMove.e y))):D Try.prog n H (.binOp .neq 53 a b t') ty fr (Ab (decide (x≠y))):=Md litsMove (by kernel_rfl) (fun _=>rfl) (fun w x y=>eqi53 (d:=9997) w x y) hx hy
theorem ent41:Ent Try.prog 41:=fun _ _=>by kernel_rfl
theorem ent15:Ent Try.prog 15:=fun _ _=>by kernel_rfl
theorem ent59:Ent Try.prog 59:=fun _ _=>by kernel_rfl
theorem ent42:Ent Try.prog 42:=fun _ _=>by kernel_rfl
theorem ent43:Ent Try.prog 43:=fun _ _=>by kernel_rfl
theorem ent13:Ent Try.prog 13:=fun _ _=>by kernel_rfl
theorem ent11:Ent Try.prog 11:=fun _ _=>by kernel_rfl
theorem ent16:Ent Try.prog 16:=fun _ _=>by kernel_rfl
theorem ent9:Ent Try.prog 9:=fun _ _=>by kernel_rfl
theorem ent10:Ent Try.prog 10:=fun _ _=>by kernel_rfl
theorem ent12:Ent Try.prog 12:=fun _ _=>by kernel_rfl
theorem ent14:Ent Try.prog 14:=fun _ _=>by kernel_rfl
theorem ent17:Ent Try.prog 17:=fun _ _=>by kernel_rfl
theorem ent18:Ent Try.prog 18:=fun _ _=>by kernel_rfl
theorem ent19:Ent Try.prog 19:=fun _ _=>by kernel_rfl
theorem ent20:Ent Try.prog 20:=fun _ _=>by kernel_rfl
theorem ent21:Ent Try.prog 21:=fun _ _=>by kernel_rfl
end Go.Proofs.Ytgmnohjaciemmaa

