import Derived.Shelf.SlSortCmp.InsertionK
import Derived.Shelf.SlSortCmp.NoneTotal
import Derived.Laws.BitsLemmas
import Derived.Test.YtgmnohjaciemmaaProg
import Derived.Test.YtgmnohjaciemmaaW4
namespace Go.Proofs.Ytgmnohjaciemmaa
namespace S
open Go.RowKit
set_option linter.unusedVariables false
set_option linter.unusedSimpArgs false
set_option linter.unusedSectionVars false
set_option maxRecDepth 100000
structure KeysTy (P:Program) {κ ν:Type} (c:Co κ) (ek:κ→Value) (ev:ν→Value) (tM kt et tS:TypeId) (zs:List Value) (az:List AV) (z:Value) (bytes:Nat):Prop where
 ht:P.underlying tM=some (.map kt et)
 gM:IsAgg P tM false
 hS:P.underlying tS=some (.slice kt)
 gS:IsAgg P tS false
 zS:SizeIs P tS 1
 gE:IsAgg P kt true
 zE:SizeIs P kt c.sz
 info:Info P kt z c.sz bytes
 zz:z.cells.size=c.sz
 b0:0<bytes
 mx:Nat.ble (1*c.sz) 16777216=true
 al:∀ w,(Instr.alloc kt true (.tuple #[])).run P w = .ok (.pointer (some ⟨w.heap.size,0,none⟩)) (w.alloc (.cells zs.toArray kt))
 azp:∀ Z w,AllP Z w az zs
 azl:az.length=c.sz
 cell:∀ k,CellsOf (.lit (ek k)) (c.e k)
structure ApRec (tS kt:TypeId) (Bs:Nat) (rec:Loop):Prop where
 sz:rec.tmps.size=13
 box:rec.tmps.getD 2 undef = .pointer (some ⟨Bs,0,none⟩)
 par:rec.params=#[7]
 st:rec.state = .ready
 pe:rec.pending=none
 aS:∃ i2 t1 p1 a1 t2 p2 a2,rec.assign = .region i2 #[⟨some 5,.alloc kt,t1,p1,a1,none⟩,⟨none,.store kt (.tmp 5) (.tmp 7),t2,p2,a2,none⟩] false
 bd:∃ i1 i3 t3 p3 a3 t4 p4 a4 t5 p5 a5 t6 p6 a6 t7 p7 a7,rec.body = .block i1 (.region i3 #[⟨some 8,.load tS (.tmp 2),t3,p3,a3,none⟩,⟨some 9,.load kt (.tmp 5),t4,p4,a4,none⟩,⟨some 10,.buildSlice tS 1 #[(0,.tmp 9)],t5,p5,a5,none⟩,⟨some 11,.call ⟨.builtin .append,#[.tmp 8,.tmp 10],#[tS,tS]⟩,t6,p6,a6,none⟩,⟨none,.store tS (.tmp 2) (.tmp 11),t7,p7,a7,none⟩] false)
section
variable {P:Program} {κ ν:Type} {c:Co κ} {ek:κ→Value} {ev:ν→Value} {tM kt et tS:TypeId} {zs:List Value} {az:List AV} {z:Value} {bytes:Nat}
theorem rounds_of (Y:KeysTy P c ek ev tM kt et tS zs az z bytes) {Bs l:Nat} {rec:Loop} (A:ApRec tS kt Bs rec) {v:Value} {ss:List κ} (x:κ) (hb:(ss.length+1)*bytes≤140737488355328) :
  Rounds P l [.agg (c.e x)] [.box Bs [.sv v],.own kt c v ss,.obj l (.loop rec)] fun a H=>∃ v',a=Ab true∧H=[.box Bs [.sv v'],.own kt c v' (ss++[x]),.obj l (.loop rec)]:=by
 obtain ⟨i2,t1,p1,a1,t2,p2,a2,has⟩:=A.aS
 obtain ⟨i1,i3,t3,p3,a3,t4,p4,a4,t5,p5,a5,t6,p6,a6,t7,p7,a7,hbd⟩:=A.bd
 exact apRound Y.hS Y.gS Y.zS Y.gE Y.zE Y.info Y.zz Y.b0 Y.mx Y.al Y.azp Y.azl A.sz A.box A.par A.st A.pe has hbd hb
theorem perm_erase {α:Type}:∀ {l:List α} {i:Nat} {a:α},l[i]?=some a→l.Perm (a::l.eraseIdx i)
 | b::l,0,a,h=>by simp at h;subst h;exact List.Perm.refl _
 | b::l,i+1,a,h=>by
  have:=perm_erase (l:=l) (i:=i) (a:=a) (by simpa using h)
  exact ((this.cons b).trans (List.Perm.swap ..))
set_option maxHeartbeats 1000000 in
theorem keysIter (Y:KeysTy P c ek ev tM kt et tS zs az z bytes) {Bs l b:Nat} {rec:Loop} (A:ApRec tS kt Bs rec) {v:Value} {es:List (κ×ν)} (hbd:es.length*bytes≤140737488355328)
  {g:FuncId} {fn:Func} {i0 i2 i4 i5:Nat} {t1 t2 t3 t4 t5 t6 t7 t8 t9 t10 t11 t12 t13:TypeId} {q:Array TypeId} {p1 p2 p3 p4 p5 p6 p7 p8 p9 p10 p11 p12:String} {a1 a2 a3 a4 a5 a6 a7 a8 a9 a10 a11 a12:Array Edge}
  (hf:P.funcs[g]?=some fn) (hn:fn.ntmps=14) (hr:fn.results=#[])
  (hb:fn.body=some (.seq (.region i0 #[⟨some 4,.load tM (.tmp 1),t1,p1,a1,none⟩,⟨some 5,.range tM (.tmp 4),t2,p2,a2,none⟩] false)
   (.block 0 (.loop (.seq (.region i2 #[⟨some 6,.next (.tmp 5) false,t3,p3,a3,none⟩,⟨some 7,.extract (.tmp 6) 0,t4,p4,a4,none⟩] false)
    (.seq (.cond (.tmp 7) .skip (.exit 0)) (.block 1 (.seq (.region i4 #[⟨some 8,.entry (.tmp 5),t5,p5,a5,none⟩,⟨some 9,.extract (.tmp 8) 0,t6,p6,a6,none⟩,⟨some 3,.alloc kt,t7,p7,a7,none⟩,⟨none,.store kt (.tmp 3) (.tmp 9),t8,p8,a8,none⟩] false)
     (.seq (.region i5 #[⟨some 10,.move (.tmp 0),t9,p9,a9,none⟩,⟨some 11,.load kt (.tmp 3),t10,p10,a10,none⟩,⟨some 12,.call ⟨.value (.tmp 10),#[.tmp 11],q⟩,t11,p11,a11,none⟩,⟨some 13,.unOp .not t13 (.tmp 12),t12,p12,a12,none⟩] false)
      (.cond (.tmp 13) .ret .skip)))))))))) :
  Spec P g [.lit (.func (.yield l) #[] #[]),.fptr [.lit (.map (some b))]] [.mp ek ev b es,.box Bs [.sv v],.own kt c v [],.obj l (.loop rec)]
   fun a H=>∃ v' ss,ss.Perm (es.map (·.1))∧H=[.mp ek ev b es,.box Bs [.sv v'],.own kt c v' ss,.obj l (.loop rec)]:=by
 have main:=spec_of (H:=[.mp ek ev b es,.box Bs [.sv v],.own kt c v [],.obj l (.loop rec)]) (avs:=[.lit (.func (.yield l) #[] #[]),.fptr [.lit (.map (some b))]]) (x:=some ()) (K:=fun (_:Unit) (a:AV) H=>∃ v' ss,ss.Perm (es.map (·.1))∧H=[.mp ek ev b es,.box Bs [.sv v'],.own kt c v' ss,.obj l (.loop rec)]) hf hb (by rw [hn];exact (show 2≤14 by decide)) ?_
 ·exact main () rfl
 rw [hn]
 refine W0<|y4 rfl<|sQ (dLd Y.gM rfl rfl) rfl<|Le (j:=0) Y.ht rfl rfl rfl fun r=>j0 ?_
 refine J6 ?_
 refine (sWk [] (fr':=[(0,.lit (.func (.yield l) #[] #[])),(5,.lit (.pointer (some ⟨r,0,none⟩)))]) ⟨rfl,rfl,trivial⟩ rfl ?_)
 refine Ge (σ:={ s:List (κ×ν)×Option (κ×ν)×List κ×Value // (s.2.2.1++s.1.map (·.1)).Perm (es.map (·.1)) }) (fun s=>s.1.1.length)
  (fun s=>[(0,.lit (.func (.yield l) #[] #[])),(5,.lit (.pointer (some ⟨r,0,none⟩)))])
  (fun s=>[.it ek ev b r es s.1.1 s.1.2.1,.box Bs [.sv s.1.2.2.2],.own kt c s.1.2.2.2 s.1.2.2.1,.obj l (.loop rec)]) ?_ ⟨(es,none,[],v),List.Perm.refl _⟩
 rintro ⟨⟨left,cur,ss,v⟩,hp⟩ again
 simp only at hp again ⊢
 refine W0<|y4 rfl<|Mf (j:=0) rfl rfl rfl (fun hl=>?_) (fun i p hi=>?_)
 ·refine sQ (dX rfl rfl) rfl<|j0<|W0<|w8 rfl rfl<|W4 rfl<|yf 0 rfl it_mp<|re hf hr ?_
  subst hl
  exact ⟨v,ss,by simpa using hp,rfl⟩
 ·have hlen:ss.length+left.length=es.length:=by have:=hp.length_eq;simpa using this
  have hil:i<left.length:=(List.getElem?_eq_some_iff.1 hi).1
  have hb1:(ss.length+1)*bytes≤140737488355328:=Nat.le_trans (Nat.mul_le_mul_right _ (by omega)) hbd
  refine sQ (dX rfl rfl) rfl<|j0<|W0<|M4 rfl rfl<|P1<|J6<|W0<|y4 rfl<|sQ (tf (j:=0) rfl rfl) rfl<|sQ (dX rfl rfl) rfl<|Q6 Y.al Y.azp rfl fun b3=>?_
  refine L7 (j:=0) (bs:=c.e p.1) Y.zE rfl rfl rfl (Y.cell p.1) (c.one _) (c.len _) (by rw [Y.azl];omega) ?_
  have hsp:splice az 0 (c.e p.1)=c.e p.1:=by simp [splice,Y.azl,c.len]
  rw [hsp]
  refine j0<|W0<|y4 rfl<|sQ (dMv rfl) rfl<|sQ (av:=.agg (c.e p.1)) ?_ rfl<|Pe (avs:=[.agg (c.e p.1)]) [2,2,2] rfl (rounds_of Y A p.1 hb1) rfl (.s rfl .nil) rfl fun av H' ⟨v',e1,e2⟩=>?_
  ·have:=W6 (P:=P) (n:=14) (ty:=t10) (t:=kt) (y:=.tmp 3) (b:=b3) (o:=0) (j:=0) (aS:=c.e p.1)
    (H:=[.box b3 (c.e p.1),.it ek ev b r es (left.eraseIdx i) (some p),.box Bs [.sv v],.own kt c v ss,.obj l (.loop rec)])
    (fr:=(10,.lit (.func (.yield l) #[] #[]))::(3,.lit (.pointer (some ⟨b3,0,none⟩)))::(9,.lit (ek p.1))::(8,.tup [.lit (ek p.1),.lit (ev p.2)])::(7,Ab true)::(6,.tup [Ab true,.lit (ek p.1),.lit (ev p.2)])::[(0,.lit (.func (.yield l) #[] #[])),(5,.lit (.pointer (some ⟨r,0,none⟩)))])
    Y.gE Y.zE rfl rfl (by rw [c.len];omega)
   rw [List.drop_zero,List.take_of_length_le (by rw [c.len];exact Nat.le_refl _)] at this
   exact this
  ·subst e1 e2
   refine sQ (z8 rfl) rfl<|j0<|w8 rfl rfl<|P1<|Q2<|sPk [4,0,0,0] rfl<|sWk [] (fr':=[(0,.lit (.func (.yield l) #[] #[])),(5,.lit (.pointer (some ⟨r,0,none⟩)))]) ⟨rfl,rfl,trivial⟩ rfl<|again ⟨(left.eraseIdx i,some p,ss++[p.1],v'),?_⟩ ?_
   ·refine List.Perm.trans ?_ hp
    simp only [List.append_assoc,List.singleton_append]
    exact List.Perm.append_left ss ((perm_erase hi).map (fun y:κ×ν=>y.1)).symm
   ·simp only [List.length_eraseIdx,hil,if_true];omega
end
end S
namespace S
open Go.RowKit
set_option linter.unusedVariables false
set_option linter.unusedSimpArgs false
set_option linter.unusedSectionVars false
set_option maxRecDepth 100000
def AV.keys (g b:Nat):AV :=
 ⟨fun Z w u=>∃ p,u = .func (.func g) #[] #[p]∧(AV.fptr [.lit (.map (some b))]).p Z w p,fun hz hk ⟨p,e,h⟩=>⟨p,e,AV.st _ hz hk h⟩⟩
theorem Inv.more {w0 w:World} {F0 Z0 F Z:Nat→Prop} {H:List Res} (hi:Inv w0 w F0 Z0 F Z H) {r:Res} (hr:r.h Z w (fun _=>False)):Inv w0 w F0 Z0 F Z (r::H) :=
 ⟨hi.base,hi.z0,hi.zin,hi.fin,⟨fun _=>False,F,hr,hi.res,fun _ h=>h.elim,fun _ h=>h⟩⟩
theorem ne_pure {P:Program} {op:Op} {y:Operand} (h:op = .move y∨op = .assign y) (ρ:Operand→Value) (o:Oper) (w:World) (g:FuncId) (args:Array Value) (w':World) (ho:o.op=op):(execOp ρ o).run P w≠.ok (.enter g args) w':=by
 rcases h with rfl | rfl <;> simp [execOp,ho]
section
variable {P:Program} {κ ν:Type} {c:Co κ} {ek:κ→Value} {ev:ν→Value} {tM kt et tS:TypeId} {zs:List Value} {az:List AV} {z:Value} {bytes:Nat}
set_option maxHeartbeats 2000000 in
theorem appendSeq (Y:KeysTy P c ek ev tM kt et tS zs az z bytes) {b:Nat} {es:List (κ×ν)} {g:FuncId} (hg:Ent P g)
  (hit:∀ {Bs l:Nat} {rec:Loop} {v:Value},ApRec tS kt Bs rec→Spec P g [.lit (.func (.yield l) #[] #[]),.fptr [.lit (.map (some b))]] [.mp ek ev b es,.box Bs [.sv v],.own kt c v [],.obj l (.loop rec)]
   fun a H=>∃ v' ss,ss.Perm (es.map (·.1))∧H=[.mp ek ev b es,.box Bs [.sv v'],.own kt c v' ss,.obj l (.loop rec)])
  {f:FuncId} {fn:Func} {i0 i1 i2 i3 i4:Nat} {t1 t2 t3 t4 t5 t6 t7 t8 t9 t10 t11 t12:TypeId} {p1 p2 p3 p4 p5 p6 p7 p8 p9 p10 p11 p12:String} {a1 a2 a3 a4 a5 a6 a7 a8 a9 a10 a11 a12:Array Edge}
  (hf:P.funcs[f]?=some fn) (hn:fn.ntmps=13) (hr:fn.results=#[.tmp 4])
  (hb:fn.body=some (.seq (.region i0 #[⟨some 2,.box tS (.tmp 0),t1,p1,a1,none⟩,⟨some 4,.assign (.const (.slice none 0 0)),t2,p2,a2,none⟩] false)
   (.seq (.seq (.region i1 #[⟨some 6,.move (.tmp 1),t3,p3,a3,none⟩] false)
    (.block 0 (.rangeFunc (.tmp 6) #[7] (.region i2 #[⟨some 5,.alloc kt,t4,p4,a4,none⟩,⟨none,.store kt (.tmp 5) (.tmp 7),t5,p5,a5,none⟩] false)
     (.block 1 (.region i3 #[⟨some 8,.load tS (.tmp 2),t6,p6,a6,none⟩,⟨some 9,.load kt (.tmp 5),t7,p7,a7,none⟩,⟨some 10,.buildSlice tS 1 #[(0,.tmp 9)],t8,p8,a8,none⟩,⟨some 11,.call ⟨.builtin .append,#[.tmp 8,.tmp 10],#[tS,tS]⟩,t9,p9,a9,none⟩,⟨none,.store tS (.tmp 2) (.tmp 11),t10,p10,a10,none⟩] false)))))
    (.seq (.region i4 #[⟨some 12,.load tS (.tmp 2),t11,p11,a11,none⟩,⟨some 4,.assign (.tmp 12),t12,p12,a12,none⟩] false) .ret)))) :
  Spec P f [.lit (.slice none 0 0),.keys g b] [.mp ek ev b es] fun a H=>∃ v ss,a = .sv v∧ss.Perm (es.map (·.1))∧H=[.own kt c v ss,.mp ek ev b es]:=by
 intro w F Z vs hvs hi
 cases hvs with
 | @cons _ v0 _ vs' hv0 hvs' =>
 cases hvs' with
 | @cons _ u _ vs'' hu hvs'' =>
 cases hvs''
 have hv0':v0 = .slice none 0 0:=hv0
 subst hv0'
 refine callsIn_wide.1 (callsIn_of_wp_marks (n:=0) (F:=Fence.wide) hf hb trivial ?_)
 have hall:AllP Z w [.sv (.slice none 0 0),.keys g b] [.slice none 0 0,u]:=.cons ⟨rfl,_,_,_,rfl⟩ (.cons hu .nil)
 have hf0:FrOk (frOf 0 [.sv (.slice none 0 0),.keys g b]) Z w (([.slice none 0 0,u]:List Value).toArray++Array.replicate (fn.ntmps-([.slice none 0 0,u]:List Value).toArray.size) undef):=frOf_ok hall 0 _ fun j v hj=>by
  match j,hj with
  | 0,hj=>simp at hj;subst hj;rw [hn];rfl
  | 1,hj=>simp at hj;subst hj;rw [hn];rfl
  | j+2,hj=>simp at hj
 rw [hn] at hf0 ⊢
 refine wpIn_seq (wpIn_region ?_)
 refine (show WL P Fence.wide 0 [] 13 _ _ w F Z [0,1] _ _ from
  wV (fun _=>trivial) (d:=2) (I:=Nat) (av:=fun B=>.lit (.pointer (some ⟨B,0,none⟩))) (H':=fun B=>[.box B [.sv (.slice none 0 0)],.mp ek ev b es]) (fun o ho hty w0 F0 Z0 w F Z ρ hi hf=>⟨.pointer (some ⟨w.heap.size,0,none⟩),w.alloc (.cells (ρ (.tmp 0)).cells.toList.toArray tS),w.heap.size,_,Z,by simp only [execOp,ho,box_run,Sem.run_bind,Result.andThen_ok,Sem.run_pure],hi.push _ (.box w.heap.size [.sv (.slice none 0 0)]) ⟨rfl,_,tS,alloc_cells w _ tS,cOne oSv _ _ _ (AV.st _ (fun _ x=>x) ((Step.alloc w _ _).keep' hi) (hf (by simp [Op.operands]) rfl))⟩,fun _ x=>x,(Step.alloc w _ _).keep' hi,rfl⟩) rfl (fun c h=>by cases h) (by omega) fun B =>
  wQ (fun _=>trivial) (d:=4) (dAs rfl) (ne_pure (.inr rfl)) rfl (fun c h=>by cases h) (by omega) fun w1 F1 Z1 tm1 hn1 hi1 hf1=>?_) w F Z _ (by simp) hi hf0
 refine wpIn_seq (wpIn_seq (wpIn_region ?_))
 refine (show WL P Fence.wide 0 [] 13 _ _ w F Z [0] _ _ from wQ (fun _=>trivial) (d:=6) (dMv rfl) (ne_pure (.inl rfl)) rfl (fun c h=>by cases h) (by omega) fun w2 F2 Z2 tm2 hn2 hi2 hf2=>?_) w1 F1 Z1 tm1 hn1 hi1 hf1
 refine wpIn_block (wpIn_rangeFunc ?_)
 intro fnn _
 have e6:(AV.keys g b).p Z2 w2 (tm2.getD 6 undef):=hf2 6 _ rfl
 obtain ⟨p,hp,hfp⟩:=e6
 have e2:tm2.getD 2 undef = .pointer (some ⟨B,0,none⟩):=hf2 2 _ rfl
 have hi3:=(hi2.push (.deferred (some [])) (.obj w2.heap.size (.deferred (some []))) ⟨rfl,heap_alloc_new w2 _⟩)
 generalize hrec:({ state:=.ready,pending:=none,fn:=fnn,tmps:=tm2,params:=#[7],assign:=.region i2 #[⟨some 5,.alloc kt,t4,p4,a4,none⟩,⟨none,.store kt (.tmp 5) (.tmp 7),t5,p5,a5,none⟩] false,body:=.block 1 (.region i3 #[⟨some 8,.load tS (.tmp 2),t6,p6,a6,none⟩,⟨some 9,.load kt (.tmp 5),t7,p7,a7,none⟩,⟨some 10,.buildSlice tS 1 #[(0,.tmp 9)],t8,p8,a8,none⟩,⟨some 11,.call ⟨.builtin .append,#[.tmp 8,.tmp 10],#[tS,tS]⟩,t9,p9,a9,none⟩,⟨none,.store tS (.tmp 2) (.tmp 11),t10,p10,a10,none⟩] false),defers:=w2.heap.size }:Loop)=rec
 have hA:ApRec tS kt B rec:=by
  subst hrec
  exact ⟨hn2,e2,rfl,rfl,rfl,⟨_,_,_,_,_,_,_,rfl⟩,⟨_,_,_,_,_,_,_,_,_,_,_,_,_,_,_,_,_,rfl⟩⟩
 have hi4:=(hi3.push (.loop rec) (.obj (w2.alloc (.deferred (some []))).heap.size (.loop rec)) ⟨rfl,heap_alloc_new _ _⟩).more (r:=.own kt c (.slice none 0 0) []) (.inr ⟨rfl,none,rfl⟩)
 have hk4:Keep Z2 w2 ((w2.alloc (.deferred (some []))).alloc (.loop rec)):=fun x hx=>by
  have hlt:=(hi2.zin x hx).1
  rw [Below.heap_alloc _ _ x (by simp;omega),Below.heap_alloc _ _ x hlt]
 obtain ⟨F5,hin,hback⟩:=hi4.lend (js:=[4,3,0,0]) (Hin:=[.mp ek ev b es,.box B [.sv (.slice none 0 0)],.own kt c (.slice none 0 0) [],.obj (w2.alloc (.deferred (some []))).heap.size (.loop rec)]) rfl
 have hl1:(w2.alloc (.deferred (some []))).heap.size=w2.heap.size+1:=by simp
 rw [hl1] at hin hback
 refine ⟨w2.heap.size+1,[{ target:=.collected w2.heap.size,args:=#[] }],(w2.alloc (.deferred (some []))).alloc (.loop rec),{ target:=.fn (.func g) #[p],args:=#[.func (.yield (w2.heap.size+1)) #[] #[]] },(w2.alloc (.deferred (some []))).alloc (.loop rec),g,#[.func (.yield (w2.heap.size+1)) #[] #[]]++#[p],(w2.alloc (.deferred (some []))).alloc (.loop rec),?_,?_,fun _ _=>trivial,?_,fun h=>by simp [Fence.wide] at h,?_⟩
 ·rw [← hrec];exact run_enterLoop_outer _ _ _ _ _
 ·have e6':(⟨tm2,[]⟩:Act).eval (.tmp 6) = .func (.func g) #[] #[p]:=hp
  have e7:(⟨tm2,[]⟩:Act).eval (.const (.func (.yield (w2.heap.size+1)) #[] #[])) = .func (.yield (w2.heap.size+1)) #[] #[]:=rfl
  simp only [resolve,rangeCall,e6',Deferred.ofValue,List.map_toArray,List.map_cons,List.map_nil,e7,Sem.run_pure]
  rfl
 ·exact hg _ _
 ·refine callsIn_wide.2 ((hit hA _ F5 Z2 [.func (.yield (w2.heap.size+1)) #[] #[],p] (.cons rfl (.cons (AV.st _ (fun _ x=>x) hk4 hfp) .nil)) hin).mono ?_)
  rintro e w5 ⟨vr,rfl,F6,Z6,av,H6,⟨v',ss,hperm,rfl⟩,hinv,_⟩
  obtain ⟨F7,hi7,hk7⟩:=hback w5 F6 Z6 _ hinv
  have hi7':Inv w w5 F Z F7 Z6 [.mp ek ev b es,.box B [.sv v'],.own kt c v' ss,.obj (w2.heap.size+1) (.loop rec),.obj w2.heap.size (.deferred (some []))]:=hi7
  obtain ⟨_,⟨_,hL⟩,_⟩:=hi7'.res.at (j:=3) rfl
  have hst:rec.state≠.busy:=by rw [hA.st];decide
  obtain ⟨F8,hi8,hk8⟩:=hi7'.put (j:=3) (o':=.loop { rec with state:=.exhausted }) rfl
  have hend:=run_endLoop (P:=P) hL hst
  generalize ({ rec with state:=.exhausted }:Loop)=rx at hi8 hk8 hend
  rw [hA.pe] at hend
  refine ⟨none,_,hend,?_⟩
  have hf8:FrOk _ Z6 (w5.putObj (w2.heap.size+1) (.loop rx)) tm2:=(((hf2.st (fun _ x=>x) hk4).st hinv.z0 hk7).st (fun _ x=>x) hk8)
  refine wpIn_seq (wpIn_region ?_)
  refine (show WL P Fence.wide 0 [{ target:=.collected w2.heap.size,args:=#[] }] 13 _ _ w F Z [0,1] _ _ from
   wQ (fun _=>trivial) (d:=12) (W3 (j:=1) (a:=.sv v') Y.gS rfl rfl rfl) ne_load rfl (fun c h=>by cases h) (by omega) <|
   wQ (fun _=>trivial) (d:=4) (dAs rfl) (ne_pure (.inr rfl)) rfl (fun c h=>by cases h) (by omega) fun w9 F9 Z9 tm9 hn9 hi9 hf9=>?_) _ F8 Z6 tm2 hn2 hi8 hf8
  refine wpIn_ret ?_
  obtain ⟨_,⟨_,hK⟩,_⟩:=hi9.res.at (j:=4) rfl
  obtain ⟨F10,hi10,hk10⟩:=hi9.put (j:=4) (o':=.deferred none) rfl
  refine ⟨by simp,.inl ⟨_,_,rfl,run_takeDeferred hK,?_⟩⟩
  obtain ⟨v1,e1,q1⟩:=rT (P:=P) (H:=[]) (fr:=(4,AV.sv v')::(12,AV.sv v')::_) (u:=4) rfl Z9 (fun _=>False) _ tm9 trivial (hf9.st (fun _ x=>x) hk10)
  exact ⟨v1,results1 hr e1,v1,rfl,F10,Z9,.sv v',_,⟨v',ss,rfl,hperm,rfl⟩,hi10.less (·.pickR [2,0]),q1⟩
end
end S
namespace S
open Go.RowKit
set_option linter.unusedVariables false
set_option linter.unusedSimpArgs false
set_option linter.unusedSectionVars false
set_option maxRecDepth 100000
section
variable {P:Program} {f:FuncId} {n:Nat} {H:List Res} {fr:Fr} {ty:TypeId} {κ ν:Type} {c:Co κ} {ek:κ→Value} {ev:ν→Value} {kt tS:TypeId}
theorem dMkF {g b:Nat} {y:Operand} (hy:arg fr y=some (.fptr [.lit (.map (some b))])):D P n H (.makeFunc (.func g) #[] #[y]) ty fr (.keys g b) :=
 .of fun o ho hty w Z F ρ _ hf=>by
  have hp:=hf (by simp [Op.operands]) hy
  exact ⟨.func (.func g) #[] #[ρ y],by simp [execOp,ho,Instr.makeFunc,Sem.run_bind],ρ y,rfl,hp⟩
theorem keysFn {tM:TypeId} {b g:Nat} {fn:Func} {i0 i1:Nat} {t1 t2 t3 t4:TypeId} {p1 p2 p3 p4:String} {a1 a2 a3 a4:Array Edge}
  (hf:P.funcs[f]?=some fn) (hn:fn.ntmps=4) (hr:fn.results=#[.tmp 2])
  (hb:fn.body=some (.seq (.region i0 #[⟨some 1,.box tM (.tmp 0),t1,p1,a1,none⟩,⟨some 2,.assign (.const .nilFunc),t2,p2,a2,none⟩] false)
   (.seq (.region i1 #[⟨some 3,.makeFunc (.func g) #[] #[.tmp 1],t3,p3,a3,none⟩,⟨some 2,.assign (.tmp 3),t4,p4,a4,none⟩] false) .ret))) :
  Pure P f [.lit (.map (some b))] (some ()) fun _=>.keys g b :=
 spec_of' hf hb hn (by exact (show 1≤4 by decide))<|W0<|y4 rfl<|sQ (P7 (az:=[.lit (.map (some b))]) rfl (cOne (oLit rfl))) rfl<|sQ (dAs rfl) rfl<|j0<|W0<|y4 rfl<|sQ (dMkF rfl) rfl<|sQ (dAs rfl) rfl<|j0<|M0 [] hf hr (rT rfl) ⟨rfl,rfl⟩
def KeysPost (kt:TypeId) (c:Co κ) (ek:κ→Value) (ev:ν→Value) (b:Nat) (es:List (κ×ν)) (a:AV) (H:List Res):Prop:=∃ v ss,a = .sv v∧ss.Perm (es.map (·.1))∧H=[.own kt c v ss,.mp ek ev b es]
theorem collectFn {b g f44:Nat} {es:List (κ×ν)} (hg:Ent P f44) (hap:Spec P f44 [.lit (.slice none 0 0),.keys g b] [.mp ek ev b es] (KeysPost kt c ek ev b es))
  {fn:Func} {i0 i1:Nat} {t1 t2 t3 t4:TypeId} {q:Array TypeId} {p1 p2 p3 p4:String} {a1 a2 a3 a4:Array Edge}
  (hf:P.funcs[f]?=some fn) (hn:fn.ntmps=5) (hr:fn.results=#[.tmp 2])
  (hb:fn.body=some (.seq (.region i0 #[⟨some 2,.assign (.const (.slice none 0 0)),t1,p1,a1,none⟩] false)
   (.seq (.region i1 #[⟨some 3,.move (.tmp 0),t2,p2,a2,none⟩,⟨some 4,.call ⟨.value (.func f44),#[.const (.slice none 0 0),.tmp 3],q⟩,t3,p3,a3,none⟩,⟨some 2,.assign (.tmp 4),t4,p4,a4,none⟩] false) .ret))) :
  Spec P f [.keys g b] [.mp ek ev b es] (KeysPost kt c ek ev b es):=by
 have main:=spec_of (H:=[.mp ek ev b es]) (avs:=[.keys g b]) (x:=some ()) (K:=fun (_:Unit) a H=>KeysPost kt c ek ev b es a H) hf hb (by rw [hn];exact (show 1≤5 by decide)) ?_
 ·exact main () rfl
 rw [hn]
 refine W0<|y4 rfl<|sQ (dAs rfl) rfl<|j0<|W0<|y4 rfl<|sQ (dMv rfl) rfl<|qd [0] hg rfl hap rfl (.s rfl (.s rfl .nil)) rfl fun av H' h=>?_
 obtain ⟨v,ss,rfl,hp,rfl⟩:=h
 exact sQ (dAs rfl) rfl<|j0<|M0 [] hf hr (rT rfl) ⟨v,ss,rfl,hp,rfl⟩
theorem sortedFn {b g f32 f33 gc:Nat} {es:List (κ×ν)} {Sd:List κ→Prop} (hg:Ent P f32) (hg':Ent P f33) (hco:Spec P f32 [.keys g b] [.mp ek ev b es] (KeysPost kt c ek ev b es))
  (hso:∀ v ss,ss.Perm (es.map (·.1))→Spec P f33 [.sv v,.lit (.func (.func gc) #[] #[])] [.own kt c v ss] fun a H=>∃ ys,ys.Perm ss∧Sd ys∧H=[.own kt c v ys])
  {fn:Func} {i0 i1 i2 i3:Nat} {t1 t2 t3 t4 t5 t6 t7 t8 t9:TypeId} {q q':Array TypeId} {p1 p2 p3 p4 p5 p6 p7 p8 p9:String} {a1 a2 a3 a4 a5 a6 a7 a8 a9:Array Edge}
  (hf:P.funcs[f]?=some fn) (hn:fn.ntmps=12) (hr:fn.results=#[.tmp 4])
  (hb:fn.body=some (.seq (.region i0 #[⟨some 4,.assign (.const (.slice none 0 0)),t1,p1,a1,none⟩] false)
   (.seq (.region i1 #[⟨some 6,.move (.tmp 0),t2,p2,a2,none⟩,⟨some 7,.call ⟨.value (.func f32),#[.tmp 6],q⟩,t3,p3,a3,none⟩,⟨some 5,.assign (.tmp 7),t4,p4,a4,none⟩] false)
    (.seq (.region i2 #[⟨some 8,.move (.tmp 5),t5,p5,a5,none⟩,⟨some 9,.move (.tmp 1),t6,p6,a6,none⟩,⟨some 10,.call ⟨.value (.func f33),#[.tmp 8,.tmp 9],q'⟩,t7,p7,a7,none⟩] false)
     (.seq (.region i3 #[⟨some 11,.move (.tmp 5),t8,p8,a8,none⟩,⟨some 4,.assign (.tmp 11),t9,p9,a9,none⟩] false) .ret))))) :
  Spec P f [.keys g b,.lit (.func (.func gc) #[] #[])] [.mp ek ev b es] fun a H=>∃ v ys,a = .sv v∧ys.Perm (es.map (·.1))∧Sd ys∧H=[.own kt c v ys,.mp ek ev b es]:=by
 have main:=spec_of (H:=[.mp ek ev b es]) (avs:=[.keys g b,.lit (.func (.func gc) #[] #[])]) (x:=some ()) (K:=fun (_:Unit) a H=>∃ v ys,a = .sv v∧ys.Perm (es.map (·.1))∧Sd ys∧H=[.own kt c v ys,.mp ek ev b es]) hf hb (by rw [hn];exact (show 2≤12 by decide)) ?_
 ·exact main () rfl
 rw [hn]
 refine W0<|y4 rfl<|sQ (dAs rfl) rfl<|j0<|W0<|y4 rfl<|sQ (dMv rfl) rfl<|qd [0] hg rfl hco rfl (.s rfl .nil) rfl fun av H' h=>?_
 obtain ⟨v,ss,rfl,hp,rfl⟩:=h
 refine sQ (dAs rfl) rfl<|j0<|W0<|y4 rfl<|sQ (dMv rfl) rfl<|sQ (dMv rfl) rfl<|qd [0] hg' rfl (hso v ss hp) rfl (.s rfl (.s rfl .nil)) rfl fun av H' h=>?_
 obtain ⟨ys,hp2,hs,rfl⟩:=h
 exact j0<|W0<|y4 rfl<|sQ (dMv rfl) rfl<|sQ (dAs rfl) rfl<|j0<|M0 [] hf hr (rT rfl) ⟨v,ys,rfl,hp2.trans hp,hs,rfl⟩
end
end S
namespace S
open Go.RowKit Go.Sort
set_option linter.unusedVariables false
set_option linter.unusedSimpArgs false
set_option linter.unusedSectionVars false
theorem world_grown {W w':World} (hb:Base W w' (fun _=>False)):∃ q os',w'=grow (W.drewN q) os':=by
 obtain ⟨h1,h2,h3,h4,h5,h6⟩:=hb
 refine ⟨w'.drawn-W.drawn,w'.heap.extract W.heap.size w'.heap.size,?_⟩
 have hh:w'.heap=W.heap++w'.heap.extract W.heap.size w'.heap.size:=by
  apply Array.ext_getElem?
  intro i
  rw [Array.getElem?_append]
  split
  ·rename_i hi;exact h6 i hi id
  ·rename_i hi
   rw [Array.getElem?_extract]
   split
   ·congr 1;omega
   ·rw [Array.getElem?_eq_none (by omega)]
 cases W;cases w'
 simp only at h1 h2 h3 h4 hh
 simp only [grow,World.drewN,World.mk.injEq]
 exact ⟨hh,h2,by omega,h1,h3⟩
theorem allP_of_lits {Z:Nat→Prop} {w:World}:∀ us:List Value,AllP Z w (us.map AV.lit) us
 | []=>.nil
 | _::us=>.cons rfl (allP_of_lits us)
section
variable {P:Program} {κ:Type} [Inhabited κ] {c:Co κ} {lits:κ→List Value}
theorem lits_len (hl:∀ x,c.e x=(lits x).map AV.lit) (x:κ):(lits x).length=c.sz:=by
 have:=c.len x;rw [hl,List.length_map] at this;exact this
theorem cmpLays_of (hl:∀ x,c.e x=(lits x).map AV.lit) {cf:κ→κ→Int} {gc:Nat} (hcmp:∀ x y,Pure P gc [.agg (c.e x),.agg (c.e y)] (some (cf x y)) fun r=>Ai .i64 r) (blk off size:Nat) (w:World) :
  CmpLays P gc #[] lits c.sz cf blk off size w:=by
 intro m os dk hs x y
 have hx:∀ z:κ,(AV.agg (c.e z)).p (fun _=>False) (sortWorldK lits c.sz w blk off m dk os) (.agg (lits z).toArray):=fun z=>⟨lits z,rfl,by rw [hl];exact allP_of_lits _⟩
 have:=hcmp x y _ rfl (sortWorldK lits c.sz w blk off m dk os) (fun _=>False) (fun _=>False) [.agg (lits x).toArray,.agg (lits y).toArray] (.cons (hx x) (.cons (hx y) .nil)) ⟨Base.refl _ _,fun _ h=>h,fun _ h=>h.elim,fun _ h=>h.elim,trivial⟩
 refine this.mono ?_
 rintro e w' ⟨v,rfl,F,Z,av,H,⟨rfl,rfl⟩,hinv,hv⟩
 have hv':v = .int .i64 (cf x y):=hv
 subst hv'
 exact ⟨rfl,world_grown hinv.base⟩
theorem own_lits (hl:∀ x,c.e x=(lits x).map AV.lit) {Z:Nat→Prop} {w:World} {xs:List κ} {cs:List Value} (hr:Rows c Z w xs cs) (j:Nat) (hj:j<xs.length*c.sz):cs[j]?=some ((flatK lits c.sz xs.toArray)[j]!):=by
 have hpos:=c.pos
 have hi:j / c.sz<xs.length:=by rw [Nat.div_lt_iff_lt_mul hpos];exact hj
 have hx:xs[j / c.sz]?=some xs[j / c.sz]:=by simp [hi]
 obtain ⟨vs,h1,h2⟩:=hr _ _ hx
 rw [hl] at h1
 have hvs:=allP_lits h1
 subst hvs
 have hm:j % c.sz<(lits xs[j / c.sz]).length:=by rw [lits_len hl];exact Nat.mod_lt _ hpos
 have:=h2 (j % c.sz) ((lits xs[j / c.sz])[j % c.sz]) (by simp [hm])
 rw [Nat.div_add_mod'] at this
 rw [this,get_flatK _ _ _ _ (by simpa using hj)]
 congr 1
 simp [hi,hm]
theorem rows_flat (hl:∀ x,c.e x=(lits x).map AV.lit) (Z:Nat→Prop) (w:World) (ys:List κ):Rows c Z w ys (flatK lits c.sz ys.toArray).toList:=by
 intro i x hx
 have hi:i<ys.length:=(List.getElem?_eq_some_iff.1 hx).1
 refine ⟨lits x,by rw [hl];exact allP_of_lits _,fun q u hq=>?_⟩
 have hql:q<c.sz:=by rw [← lits_len hl x];exact (List.getElem?_eq_some_iff.1 hq).1
 have hj:i*c.sz+q<ys.length*c.sz:=by
  have:=Nat.mul_le_mul_right c.sz (show i+1≤ys.length from hi)
  rw [Nat.add_mul] at this;omega
 have h1:(i*c.sz+q) / c.sz=i:=by rw [Nat.mul_comm,Nat.mul_add_div c.pos,Nat.div_eq_of_lt hql,Nat.add_zero]
 have h2:(i*c.sz+q) % c.sz=q:=by rw [Nat.mul_comm,Nat.mul_add_mod,Nat.mod_eq_of_lt hql]
 have:=get_flatK lits c.sz ys.toArray (i*c.sz+q) (by simpa using hj)
 rw [h1,h2] at this
 have hsz:i*c.sz+q<(flatK lits c.sz ys.toArray).toList.length:=by simpa using hj
 rw [List.getElem?_eq_getElem hsz]
 rw [getElem!_pos _ _ (by simpa using hj)] at this
 simp only [Array.getElem_toList,this]
 obtain ⟨hq1,hq2⟩:=List.getElem?_eq_some_iff.1 hq
 have hxi:ys[i]=x:=(List.getElem?_eq_some_iff.1 hx).2
 simp [hi,hxi,hq1,hq2]
end
end S
namespace S
open Go.RowKit Go.Sort
set_option linter.unusedVariables false
set_option linter.unusedSimpArgs false
set_option linter.unusedSectionVars false
def SortedBy {κ:Type} [Inhabited κ] (cf:κ→κ→Int) (ys:List κ):Prop:=SortedIn (ltOf cf) 0 ys.length ys.toArray
set_option maxHeartbeats 1000000 in
theorem sortFn {P:Program} {ρ:Go.Shelf.Ren} (L:SlLaysF0.n6 P ρ) {κ:Type} [Inhabited κ] {c:Co κ} {lits:κ→List Value} (hl:∀ x,c.e x=(lits x).map AV.lit) (h1:∀ x,∀ v ∈ lits x,v.oneCell'=true)
  (gE:IsAgg P (ρ.t 24) true) (zE:SizeIs P (ρ.t 24) c.sz) {cf:κ→κ→Int} (hO:SWO (ltOf cf)) {gc:Nat} (hgc:Ent P gc) (hcmp:∀ x y,Pure P gc [.agg (c.e x),.agg (c.e y)] (some (cf x y)) fun r=>Ai .i64 r) {v:Value} {xs:List κ} (hlen:xs.length<4611686018427387904) :
  Spec P (ρ.f 6) [.sv v,.lit (.func (.func gc) #[] #[])] [.own (ρ.t 24) c v xs] fun a H=>∃ ys,ys.Perm xs∧SortedBy cf ys∧H=[.own (ρ.t 24) c v ys]:=by
 intro w F Z vs hvs hi
 cases hvs with
 | @cons _ u _ vs' hu hvs' =>
 cases hvs' with
 | @cons _ fv _ vs'' hfv hvs'' =>
 cases hvs''
 obtain ⟨rfl,_⟩:=hu
 have hfv':fv = .func (.func gc) #[] #[]:=hfv
 subst hfv'
 obtain ⟨F1,hown,hF1⟩:=hi.res.at (j:=0) rfl
 obtain ⟨A,m,hv⟩:=own_sv hown
 by_cases hx:xs=[]
 ·subst hx
  rw [hv]
  refine (AnyF.slices_SortFunc_none L A m (.func (.func gc) #[] #[]) w).mono ?_
  rintro e w' ⟨rfl,rfl⟩
  rw [← hv]
  exact ⟨_,rfl,F,Z,.any,_,⟨[],List.Perm.refl _,fun i j _ _ h=>by simp at h,rfl⟩,hi,trivial⟩
 have hx0:xs.length≠0:=fun h=>hx (List.length_eq_zero_iff.1 h)
 obtain ⟨cs,⟨hcl,hor⟩,hb,hrows⟩ | ⟨rfl,_⟩:=hown
 case inr=>exact absurd rfl hx
 rcases hor with ⟨_,hn0⟩ | ⟨g,cap,cur,hvg,hg,⟨fz,hh,hfz⟩,hcap,hmx,hcs,htk⟩
 ·exact absurd hn0 hx0
 have hgl:g<w.heap.size:=(Array.getElem?_eq_some_iff.1 hh).1
 have hnk:xs.length*c.sz≤cap*c.sz:=Nat.mul_le_mul_right _ hcap
 have hcell:∀ j,j<xs.length*c.sz→cur[j]?=some ((flatK lits c.sz xs.toArray)[j]!):=fun j hj=>by
  have:=own_lits hl hrows j hj
  rw [← htk,List.getElem?_take,if_pos hj] at this
  simpa using this
 have hH:HoldsK lits c.sz w g 0 xs.toArray:=by
  intro j hj
  rw [size_flatK] at hj
  have hj':j<xs.length*c.sz:=by simpa using hj
  refine ⟨?_,?_⟩
  ·simp only [World.cell?,hh,Nat.zero_add]
   simpa using hcell j hj'
  ·simp only [World.frozen?,hh,Nat.zero_add]
   rcases hfz with rfl | hfz
   ·simp
   ·have:¬ fz.1≤j:=by omega
    simp [this]
 have hcall:=AnyQ.slices_SortFunc L c.sz gE zE lits (lits_len hl) h1 cf hO gc #[] g 0 cap xs.toArray w hgc (cmpLays_of hl hcmp g 0 xs.toArray.size w) hH hgl (by simpa using hlen)
 rw [show (xs.toArray.size)=xs.length from by simp,← hvg] at hcall
 refine hcall.mono ?_
 rintro e w' ⟨rfl,d',n,os,hperm,hsort,rfl⟩
 have hds:d'.size=xs.length:=by simpa using hperm.1
 have hpl:d'.toList.Perm xs:=by
  have:=(show (d'.extract 0 xs.length).toList.Perm (xs.toArray.extract 0 xs.length).toList from by simpa [hds] using hperm.2.2)
  rw [show d'.extract 0 xs.length=d' from by rw [← hds];exact Array.extract_size,show xs.toArray.extract 0 xs.length=xs.toArray from by rw [show xs.length=xs.toArray.size from by simp];exact Array.extract_size] at this
  simpa using this
 obtain ⟨F',hi',hk⟩:=hi.turn (w':=sortWorldK lits c.sz w g 0 n d' os) (r':=.own (ρ.t 24) c u d'.toList) (j:=0) rfl fun F1 hown1 hz1=>by
  have hg1:F1 g:=by
   obtain ⟨_,_,hb1,_⟩ | ⟨rfl,_⟩:=hown1
   ·exact hb1 g (by rw [hvg];rfl)
   ·exact absurd rfl hx
  refine ⟨F1,⟨rfl,rfl,rfl,Nat.le_add_right _ _,by simp [sortWorldK,grow,putRowK,putRow,mapBlock,ahead],fun b hbl hnb=>?_⟩,.inl ⟨(flatK lits c.sz d').toList,⟨by simp [hds],.inr ⟨g,cap,putCells id 0 (flatK lits c.sz d') cur,by simpa [hds] using hvg,Nat.zero_le _,⟨fz,?_,by simpa [putCells] using hfz⟩,by simpa [hds] using hcap,hmx,by simpa [putCells] using hcs,?_⟩⟩,fun b hb'=>?_,?_⟩,fun _ h=>.inl h⟩
  ·have hne:g≠b:=fun e=>hnb (e ▸ hg1)
   simp only [sortWorldK,grow,putRowK,putRow,mapBlock,ahead]
   rw [Array.getElem?_append_left (by simpa using hbl),Array.getElem?_modify,if_neg hne]
   rfl
  ·simp only [sortWorldK,grow,putRowK,putRow,mapBlock,ahead]
   rw [Array.getElem?_append_left (by simpa using hgl),Array.getElem?_modify,if_pos rfl,show (Sort.ahead w n).heap=w.heap from rfl,hh]
   rfl
  ·apply List.ext_getElem?
   intro j
   have hsz:(flatK lits c.sz d').size=xs.length*c.sz:=by simp [hds]
   rw [List.getElem?_take]
   simp only [Array.length_toList,hds]
   split
   ·rename_i hj
    simp only [Array.getElem?_toList,putCells,Array.getElem?_mapIdx,Nat.zero_add,Nat.zero_le,true_and,Nat.sub_zero,hsz,hj,if_true,hcell j hj,Option.map_some,id]
    rw [Array.getElem?_eq_getElem (by omega),getElem!_pos _ _ (by omega)]
   ·rename_i hj
    rw [List.getElem?_eq_none (by simp [hds];omega)]
  ·have:b=g:=by rw [hvg] at hb';simpa [Value.ownBlock] using hb'.symm
   subst this;exact hg1
  ·have:=rows_flat hl Z (sortWorldK lits c.sz w g 0 n d' os) d'.toList
   simpa using this
 exact ⟨_,rfl,F',Z,.any,_,⟨d'.toList,hpl,by unfold SortedBy;simpa [hds] using hsort,rfl⟩,hi',trivial⟩
end S
namespace S
open Go.RowKit Go.Sort
set_option linter.unusedVariables false
set_option linter.unusedSectionVars false
section
variable {κ:Type} [Inhabited κ] {cf:κ→κ→Int}
def sortL (cf:κ→κ→Int) (ks:List κ):List κ:=ks.mergeSort fun x y=>!(ltOf cf y x)
theorem sortedBy_pairwise {ys:List κ} (h:SortedBy cf ys):ys.Pairwise fun x y=>(!(ltOf cf y x))=true:=by
 rw [List.pairwise_iff_getElem]
 intro i j hi hj hij
 have:=h i j (Nat.zero_le _) hij hj
 simpa [hi,hj] using this
theorem perm_unique {r:κ→κ→Prop} (ha:∀ x y,r x y→r y x→x=y):∀ {ys zs:List κ},ys.Perm zs→ys.Pairwise r→zs.Pairwise r→ys=zs
 | [],zs,hp,_,_=>by rw [List.nil_perm.1 hp]
 | y::ys,[],hp,_,_=>by have:=hp.length_eq;simp at this
 | y::ys,z::zs,hp,h1,h2=>by
  obtain ⟨h1a,h1b⟩:=List.pairwise_cons.1 h1
  obtain ⟨h2a,h2b⟩:=List.pairwise_cons.1 h2
  have hyz:y=z:=by
   have hy:y ∈ z::zs:=hp.subset (.head _)
   have hz:z ∈ y::ys:=hp.symm.subset (.head _)
   rcases List.mem_cons.1 hy with e | hy
   ·exact e
   rcases List.mem_cons.1 hz with e | hz
   ·exact e.symm
   exact ha _ _ (h1a z hz) (h2a y hy)
  subst hyz
  rw [perm_unique ha (List.Perm.cons_inv hp) h1b h2b]
theorem sortL_is (hO:SWO (ltOf cf)) (ha:∀ x y,ltOf cf x y=false→ltOf cf y x=false→x=y) {ys ks:List κ} (hp:ys.Perm ks) (hs:SortedBy cf ys):ys=sortL cf ks:=by
 refine perm_unique (r:=fun x y=>(!(ltOf cf y x))=true) (fun x y h1 h2=>ha x y (by simpa using h2) (by simpa using h1)) (hp.trans (List.mergeSort_perm _ _).symm) (sortedBy_pairwise hs) ?_
 refine List.pairwise_mergeSort (fun a b c h1 h2=>?_) (fun a b=>?_) _
 ·have:=hO.ntrans c b a (by simpa using h2) (by simpa using h1)
  simpa using this
 ·by_cases h:ltOf cf b a=true
  ·have:ltOf cf a b=false:=by
    cases hab:ltOf cf a b with
    | false=>rfl
    | true=>have:=hO.trans _ _ _ h hab;rw [hO.irrefl] at this;cases this
   simp [this]
  ·simp [h]
end
end S
namespace S
set_option linter.unusedVariables false
set_option linter.unusedSimpArgs false
theorem wr {a:Int} (h0:-9223372036854775808≤a) (h1:a≤9223372036854775807):IntKind.wrap .i64 a=a:=by rw [IntKind.wrap_i64];omega
theorem wb {a:Int} (h0:0≤a) (h1:a<256):IntKind.wrap .u8 a=a:=by rw [IntKind.wrap_u8];omega
theorem rounds {σ ρ:Type} {L:Nat→σ→Option ρ} (I:σ→Prop) (μ:σ→Nat) (Q:ρ→Prop)
  (step:∀ s m,I s→(∃ r,L (m+1) s=some r∧Q r)∨∃ s',I s'∧μ s'<μ s∧L (m+1) s=L m s'):∀ m s,I s→μ s<m→∃ r,L m s=some r∧Q r:=by
 intro m
 induction m with
 | zero=>intro s _ h;exact absurd h (Nat.not_lt_zero _)
 | succ m ih =>
  intro s hi hm
  rcases step s m hi with h | ⟨s',hi',hlt,he⟩
  ·exact h
  ·obtain ⟨r,h1,h2⟩:=ih s' hi' (by omega)
   exact ⟨r,he.trans h1,h2⟩
theorem iand_mask (x:Int) (k:Nat) (hk:k<63):iand .i64 x ((2 ^ k-1:Nat):Int)=x % ((2 ^ k:Nat):Int):=by
 have hp:2 ^ k≤2 ^ 62:=Nat.pow_le_pow_right (by decide) (by omega)
 have hm:(2 ^ k-1) % 2 ^ 64=2 ^ k-1:=Nat.mod_eq_of_lt (by simp only [Nat.reducePow] at *;omega)
 unfold iand
 rw [BitVec.ofInt_natCast,BitVec.toNat_and,BitVec.toNat_ofNat,show IntKind.i64.bits=64 from rfl,hm,Nat.and_two_pow_sub_one_eq_mod,BitVec.toNat_ofInt]
 have h1:(((x % ((2 ^ 64:Nat):Int)).toNat % 2 ^ k:Nat):Int)=x % ((2 ^ k:Nat):Int):=by
  rw [Int.natCast_emod,Int.toNat_of_nonneg (Int.emod_nonneg _ (by decide))]
  exact Int.emod_emod_of_dvd _ (by exact_mod_cast Nat.pow_dvd_pow 2 (by omega))
 rw [h1]
 have h2:0≤x % ((2 ^ k:Nat):Int):=Int.emod_nonneg _ (by have:=Nat.two_pow_pos k;omega)
 have h3:x % ((2 ^ k:Nat):Int)<((2 ^ k:Nat):Int):=Int.emod_lt_of_pos _ (by have:=Nat.two_pow_pos k;omega)
 have h4:((2 ^ k:Nat):Int)≤((2 ^ 62:Nat):Int):=Int.ofNat_le.2 hp
 exact wr (by omega) (by simp only [Nat.reducePow,Nat.reducePow] at h4;omega)
theorem and1 (x:Int):iand .i64 x 1=x % 2:=iand_mask x 1 (by decide)
theorem and3 (x:Int):iand .i64 x 3=x % 4:=iand_mask x 2 (by decide)
theorem and7 (x:Int):iand .i64 x 7=x % 8:=iand_mask x 3 (by decide)
theorem and31 (x:Int):iand .i64 x 31=x % 32:=iand_mask x 5 (by decide)
variable {T:Type} [Inhabited T]
theorem rd_nat (xs:List T) (i:Nat):rd xs (i:Int)=xs.getD i default:=rfl
theorem rd_set {xs:List T} {i j:Nat} (x:T) (hi:i<xs.length):rd (xs.set i x) (j:Int)=if i=j then x else rd xs (j:Int):=by
 simp only [rd,Int.toNat_natCast,List.getD_eq_getElem?_getD,List.getElem?_set]
 by_cases e:i=j
 ·subst e;simp [hi]
 ·simp [e]
theorem rd_mem {xs:List T} {i:Int} (h0:0≤i) (h:i<xs.length):rd xs i ∈ xs:=List.mem_of_getElem? (rd_get h0 h)
theorem rd_rep {n i:Nat} (x:T) (h:i<n):rd (List.replicate n x) (i:Int)=x:=by simp [rd,List.getD_eq_getElem?_getD,h]
end S
open S
set_option linter.unusedVariables false
def firstOf {ρ:Type} (B:Nat→Option ρ):Nat→Nat→Option ρ
 | 0,_=>none
 | k+1,i=>match B i with | some r=>some r | none=>firstOf B k (i+1)
theorem firstOf_none {ρ:Type} {B:Nat→Option ρ}:∀ {k i:Nat},firstOf B k i=none↔∀ j,i≤j→j<i+k→B j=none
 | 0,i=>⟨fun _ j h1 h2=>by omega,fun _=>rfl⟩
 | k+1,i=>by
  unfold firstOf
  constructor
  ·intro h j h1 h2
   split at h
   ·cases h
   ·rename_i hb
    rcases Nat.eq_or_lt_of_le h1 with rfl | h1
    ·exact hb
    ·exact firstOf_none.1 h j (by omega) (by omega)
  ·intro h
   rw [h i (Nat.le_refl _) (by omega)]
   exact firstOf_none.2 fun j h1 h2=>h j (by omega) (by omega)
theorem firstOf_some {ρ:Type} {B:Nat→Option ρ} {r:ρ}:∀ {k i:Nat},firstOf B k i=some r→∃ j,i≤j∧j<i+k∧B j=some r∧∀ q,i≤q→q<j→B q=none
 | 0,i,h=>by cases h
 | k+1,i,h=>by
  unfold firstOf at h
  split at h
  ·rename_i hb;cases h;exact ⟨i,Nat.le_refl _,by omega,hb,fun q h1 h2=>by omega⟩
  ·rename_i hb
   obtain ⟨j,h1,h2,h3,h4⟩:=firstOf_some h
   exact ⟨j,by omega,by omega,h3,fun q q1 q2=>by
    rcases Nat.eq_or_lt_of_le q1 with rfl | q1
    ·exact hb
    ·exact h4 q (by omega) q2⟩
theorem scan {ρ:Type} (n:Nat) (L:Nat→Int→Option (Int ⊕ ρ)) (B:Nat→Option ρ)
  (step:∀ m i,i<n→L (m+1) (i:Int)=match B i with | some r=>some (.inr r) | none=>L m ((i:Int)+1))
  (stop:∀ m,L (m+1) (n:Int)=some (.inl (n:Int))):∀ k i m,i+k=n→k<m→L m (i:Int)=some (match firstOf B k i with | some r=>.inr r | none=>.inl (n:Int)):=by
 intro k
 induction k with
 | zero =>
  intro i m hi hm
  obtain ⟨m,rfl⟩:∃ q,m=q+1:=⟨m-1,by omega⟩
  have:i=n:=by omega
  subst this
  exact stop m
 | succ k ih =>
  intro i m hi hm
  obtain ⟨m,rfl⟩:∃ q,m=q+1:=⟨m-1,by omega⟩
  rw [step m i (by omega)]
  unfold firstOf
  cases B i with
  | some r=>rfl
  | none=>simpa using ih (i+1) m (by omega) (by omega)
structure Symbol where
 Name:Int
 Lo:Int
 Hi:Int
 deriving DecidableEq
def zSymbol:Symbol:=⟨(0:Int),(0:Int),(0:Int)⟩
instance:Inhabited Symbol:=⟨zSymbol⟩
def cSymbol:Co Symbol:=⟨fun x=>[Ai .i64 x.Name,Ai .i64 x.Lo,Ai .i64 x.Hi],3,by decide,fun _=>rfl,fun _=>⟨oLit rfl,oLit rfl,oLit rfl,trivial⟩⟩
structure Conjunct where
 Neg:Bool
 Seq:(List Symbol)
 deriving DecidableEq
def zConjunct:Conjunct:=⟨false,([]:(List Symbol))⟩
instance:Inhabited Conjunct:=⟨zConjunct⟩
def cConjunct:Co Conjunct:=⟨fun x=>[Ab x.Neg,.fsl cSymbol x.Seq],2,by decide,fun _=>rfl,fun _=>⟨oLit rfl,oFsl,trivial⟩⟩
structure Rule where
 Head:Int
 Conj:(List Conjunct)
 deriving DecidableEq
def zRule:Rule:=⟨(0:Int),([]:(List Conjunct))⟩
instance:Inhabited Rule:=⟨zRule⟩
def cRule:Co Rule:=⟨fun x=>[Ai .i64 x.Head,.fsl cConjunct x.Conj],2,by decide,fun _=>rfl,fun _=>⟨oLit rfl,oFsl,trivial⟩⟩
structure Grammar where
 Start:Int
 Names:(List ByteArray)
 Rules:(List Rule)
 deriving DecidableEq
def zGrammar:Grammar:=⟨(0:Int),([]:(List ByteArray)),([]:(List Rule))⟩
instance:Inhabited Grammar:=⟨zGrammar⟩
def cGrammar:Co Grammar:=⟨fun x=>[Ai .i64 x.Start,.fsl cS x.Names,.fsl cRule x.Rules],3,by decide,fun _=>rfl,fun _=>⟨oLit rfl,oFsl,oFsl,trivial⟩⟩
structure Place where
 Rule:Int
 Conj:Int
 Pos:Int
 deriving DecidableEq
def zPlace:Place:=⟨(0:Int),(0:Int),(0:Int)⟩
instance:Inhabited Place:=⟨zPlace⟩
def cPlace:Co Place:=⟨fun x=>[Ai .i64 x.Rule,Ai .i64 x.Conj,Ai .i64 x.Pos],3,by decide,fun _=>rfl,fun _=>⟨oLit rfl,oLit rfl,oLit rfl,trivial⟩⟩
structure Move where
 From:Int
 Symbol:Symbol
 To:Int
 deriving DecidableEq
def zMove:Move:=⟨(0:Int),(zSymbol:Symbol),(0:Int)⟩
instance:Inhabited Move:=⟨zMove⟩
def cMove:Co Move:=⟨fun x=>[Ai .i64 x.From,Ai .i64 x.Symbol.Name,Ai .i64 x.Symbol.Lo,Ai .i64 x.Symbol.Hi,Ai .i64 x.To],5,by decide,fun _=>rfl,fun _=>⟨oLit rfl,oLit rfl,oLit rfl,oLit rfl,oLit rfl,trivial⟩⟩
structure Automaton where
 States:(List (List Place))
 Moves:(List Move)
 deriving DecidableEq
def zAutomaton:Automaton:=⟨([]:(List (List Place))),([]:(List Move))⟩
instance:Inhabited Automaton:=⟨zAutomaton⟩
def cAutomaton:Co Automaton:=⟨fun x=>[.fsl (cL cPlace) x.States,.fsl cMove x.Moves],2,by decide,fun _=>rfl,fun _=>⟨oFsl,oFsl,trivial⟩⟩
structure Items_builder where
 g:Grammar
 a:Automaton
 by_:(List (ByteArray×Int))
 deriving DecidableEq
structure Edge where
 From:Int
 To:Int
 Neg:Bool
 deriving DecidableEq
def zEdge:Edge:=⟨(0:Int),(0:Int),false⟩
instance:Inhabited Edge:=⟨zEdge⟩
def cEdge:Co Edge:=⟨fun x=>[Ai .i64 x.From,Ai .i64 x.To,Ab x.Neg],3,by decide,fun _=>rfl,fun _=>⟨oLit rfl,oLit rfl,oLit rfl,trivial⟩⟩
def Mb (x:Symbol):Prop:=(wfI .i64) x.Name∧(wfI .i64) x.Lo∧(wfI .i64) x.Hi
def jb (x:Conjunct):Prop:=wfB x.Neg∧(wfL Mb 24) x.Seq
def Vc (x:Rule):Prop:=(wfI .i64) x.Head∧(wfL jb 32) x.Conj
def rc (x:Grammar):Prop:=(wfI .i64) x.Start∧(wfL wfS 16) x.Names∧(wfL Vc 32) x.Rules
theorem al25:∀ w,(Instr.alloc 25 true (.tuple #[])).run Try.prog w = .ok (.pointer (some ⟨w.heap.size,0,none⟩)) (w.alloc (.cells ([.int .i64 0,.slice none 0 0,.slice none 0 0]:List Value).toArray 25)):=fun _=>by kernel_rfl
theorem fa25_0:FA Try.prog 25 0 0:=fun _ _=>by kernel_rfl
theorem g3:IsAgg Try.prog 3 false:=fun _=>by kernel_rfl
theorem z9:SizeIs Try.prog 9 1:=fun _=>by kernel_rfl
theorem Pd:Info Try.prog 9 (.string ⟨#[]⟩) 1 16:=by unfold Info;kernel_rfl
theorem fa25_1:FA Try.prog 25 1 1:=fun _ _=>by kernel_rfl
theorem g22:IsAgg Try.prog 22 false:=fun _=>by kernel_rfl
theorem mixed:Try.prog.follows .mixedOrders=true:=by kernel_rfl
theorem zv25:∀ w,(zeroValue 25).run Try.prog w = .ok (.agg ([.int .i64 0,.slice none 0 0,.slice none 0 0]:List Value).toArray) w:=fun _=>by kernel_rfl
theorem pl25:∀ w,((#[{ name := "Start",type:=3,offset:=0,embedded:=false,tag := "",pkgPath := "",byteOffset:=0 },{ name := "Names",type:=22,offset:=1,embedded:=false,tag := "",pkgPath := "",byteOffset:=8 },{ name := "Rules",type:=23,offset:=2,embedded:=false,tag := "",pkgPath := "",byteOffset:=32 }]:Array Field).mapM (m:=Sem) fun f=>do pure (f.offset,← sizeOf f.type)).run Try.prog w = .ok #[(0,1),(1,1),(2,1)] w:=fun _=>by kernel_rfl
theorem z25:SizeIs Try.prog 25 3:=fun _=>by kernel_rfl
theorem fa25_2:FA Try.prog 25 2 2:=fun _ _=>by kernel_rfl
theorem g23:IsAgg Try.prog 23 false:=fun _=>by kernel_rfl
theorem z61:SizeIs Try.prog 61 2:=fun _=>by kernel_rfl
theorem fa61_0:FA Try.prog 61 0 0:=fun _ _=>by kernel_rfl
theorem zv61:∀ w,(zeroValue 61).run Try.prog w = .ok (.agg ([.int .i64 0,.slice none 0 0]:List Value).toArray) w:=fun _=>by kernel_rfl
theorem pl61:∀ w,((#[{ name := "Head",type:=3,offset:=0,embedded:=false,tag := "",pkgPath := "",byteOffset:=0 },{ name := "Conj",type:=59,offset:=1,embedded:=false,tag := "",pkgPath := "",byteOffset:=8 }]:Array Field).mapM (m:=Sem) fun f=>do pure (f.offset,← sizeOf f.type)).run Try.prog w = .ok #[(0,1),(1,1)] w:=fun _=>by kernel_rfl
theorem al61:∀ w,(Instr.alloc 61 true (.tuple #[])).run Try.prog w = .ok (.pointer (some ⟨w.heap.size,0,none⟩)) (w.alloc (.cells ([.int .i64 0,.slice none 0 0]:List Value).toArray 61)):=fun _=>by kernel_rfl
theorem fa61_1:FA Try.prog 61 1 1:=fun _ _=>by kernel_rfl
theorem g59:IsAgg Try.prog 59 false:=fun _=>by kernel_rfl
theorem z58:SizeIs Try.prog 58 2:=fun _=>by kernel_rfl
theorem g58:IsAgg Try.prog 58 true:=fun _=>by kernel_rfl
theorem al58:∀ w,(Instr.alloc 58 true (.tuple #[])).run Try.prog w = .ok (.pointer (some ⟨w.heap.size,0,none⟩)) (w.alloc (.cells ([.bool false,.slice none 0 0]:List Value).toArray 58)):=fun _=>by kernel_rfl
theorem fa58_0:FA Try.prog 58 0 0:=fun _ _=>by kernel_rfl
theorem g4:IsAgg Try.prog 4 false:=fun _=>by kernel_rfl
theorem z51:SizeIs Try.prog 51 3:=fun _=>by kernel_rfl
theorem La:Info Try.prog 51 (.agg #[.int .i64 0,.int .i64 0,.int .i64 0]) 3 24:=by unfold Info;kernel_rfl
theorem fa58_1:FA Try.prog 58 1 1:=fun _ _=>by kernel_rfl
theorem g56:IsAgg Try.prog 56 false:=fun _=>by kernel_rfl
theorem zv58:∀ w,(zeroValue 58).run Try.prog w = .ok (.agg ([.bool false,.slice none 0 0]:List Value).toArray) w:=fun _=>by kernel_rfl
theorem pl58:∀ w,((#[{ name := "Neg",type:=4,offset:=0,embedded:=false,tag := "",pkgPath := "",byteOffset:=0 },{ name := "Seq",type:=56,offset:=1,embedded:=false,tag := "",pkgPath := "",byteOffset:=8 }]:Array Field).mapM (m:=Sem) fun f=>do pure (f.offset,← sizeOf f.type)).run Try.prog w = .ok #[(0,1),(1,1)] w:=fun _=>by kernel_rfl
theorem mb:Info Try.prog 58 (.agg #[.bool false,.slice none 0 0]) 2 32:=by unfold Info;kernel_rfl
theorem z59:SizeIs Try.prog 59 1:=fun _=>by kernel_rfl
theorem g61:IsAgg Try.prog 61 true:=fun _=>by kernel_rfl
theorem fb:Info Try.prog 61 (.agg #[.int .i64 0,.slice none 0 0]) 2 32:=by unfold Info;kernel_rfl
theorem z23:SizeIs Try.prog 23 1:=fun _=>by kernel_rfl
theorem g25:IsAgg Try.prog 25 true:=fun _=>by kernel_rfl
theorem z55:SizeIs Try.prog 55 3:=fun _=>by kernel_rfl
theorem k7:Info Try.prog 55 (.agg #[.int .i64 0,.int .i64 0,.int .i64 0]) 3 24:=by unfold Info;kernel_rfl
theorem zv55:∀ w,(zeroValue 55).run Try.prog w = .ok (.agg ([.int .i64 0,.int .i64 0,.int .i64 0]:List Value).toArray) w:=fun _=>by kernel_rfl
theorem pl55:∀ w,((#[{ name := "Rule",type:=3,offset:=0,embedded:=false,tag := "",pkgPath := "",byteOffset:=0 },{ name := "Conj",type:=3,offset:=1,embedded:=false,tag := "",pkgPath := "",byteOffset:=8 },{ name := "Pos",type:=3,offset:=2,embedded:=false,tag := "",pkgPath := "",byteOffset:=16 }]:Array Field).mapM (m:=Sem) fun f=>do pure (f.offset,← sizeOf f.type)).run Try.prog w = .ok #[(0,1),(1,1),(2,1)] w:=fun _=>by kernel_rfl
theorem ent74:Ent Try.prog 74:=fun _ _=>by kernel_rfl
theorem ent75:Ent Try.prog 75:=fun _ _=>by kernel_rfl
theorem g9:IsAgg Try.prog 9 false:=fun _=>by kernel_rfl
theorem ent66:Ent Try.prog 66:=fun _ _=>by kernel_rfl
theorem mk9:MK Try.prog 9 (fun x:ByteArray=>Value.string x):=mkStr Try.underlying9
theorem zv4:∀ w,(zeroValue 4).run Try.prog w = .ok (.bool false) w:=fun _=>by kernel_rfl
theorem fa51_0:FA Try.prog 51 0 0:=fun _ _=>by kernel_rfl
theorem fa51_1:FA Try.prog 51 1 1:=fun _ _=>by kernel_rfl
theorem fa51_2:FA Try.prog 51 2 2:=fun _ _=>by kernel_rfl
theorem g51:IsAgg Try.prog 51 true:=fun _=>by kernel_rfl
theorem al51:∀ w,(Instr.alloc 51 true (.tuple #[])).run Try.prog w = .ok (.pointer (some ⟨w.heap.size,0,none⟩)) (w.alloc (.cells ([.int .i64 0,.int .i64 0,.int .i64 0]:List Value).toArray 51)):=fun _=>by kernel_rfl
theorem ent67:Ent Try.prog 67:=fun _ _=>by kernel_rfl
theorem ent49:Ent Try.prog 49:=fun _ _=>by kernel_rfl
theorem ent50:Ent Try.prog 50:=fun _ _=>by kernel_rfl
theorem fa55_0:FA Try.prog 55 0 0:=fun _ _=>by kernel_rfl
theorem fa55_1:FA Try.prog 55 1 1:=fun _ _=>by kernel_rfl
theorem fa55_2:FA Try.prog 55 2 2:=fun _ _=>by kernel_rfl
theorem g55:IsAgg Try.prog 55 true:=fun _=>by kernel_rfl
theorem ent30:Ent Try.prog 30:=fun _ _=>by kernel_rfl
theorem zv51:∀ w,(zeroValue 51).run Try.prog w = .ok (.agg ([.int .i64 0,.int .i64 0,.int .i64 0]:List Value).toArray) w:=fun _=>by kernel_rfl
theorem pl51:∀ w,((#[{ name := "Name",type:=3,offset:=0,embedded:=false,tag := "",pkgPath := "",byteOffset:=0 },{ name := "Lo",type:=3,offset:=1,embedded:=false,tag := "",pkgPath := "",byteOffset:=8 },{ name := "Hi",type:=3,offset:=2,embedded:=false,tag := "",pkgPath := "",byteOffset:=16 }]:Array Field).mapM (m:=Sem) fun f=>do pure (f.offset,← sizeOf f.type)).run Try.prog w = .ok #[(0,1),(1,1),(2,1)] w:=fun _=>by kernel_rfl
theorem ent79:Ent Try.prog 79:=fun _ _=>by kernel_rfl
theorem z3:SizeIs Try.prog 3 1:=fun _=>by kernel_rfl
theorem ent72:Ent Try.prog 72:=fun _ _=>by kernel_rfl
theorem vg:Info Try.prog 3 (.int .i64 0) 1 8:=by unfold Info;kernel_rfl
theorem ent71:Ent Try.prog 71:=fun _ _=>by kernel_rfl
def litsPlace (x:Place):List Value:=[.int .i64 x.Rule,.int .i64 x.Conj,.int .i64 x.Pos]
def kvPlace (x:Place):Value:=.agg (litsPlace x).toArray
theorem ent52:Ent Try.prog 52:=fun _ _=>by kernel_rfl
theorem al55:∀ w,(Instr.alloc 55 true (.tuple #[])).run Try.prog w = .ok (.pointer (some ⟨w.heap.size,0,none⟩)) (w.alloc (.cells ([.int .i64 0,.int .i64 0,.int .i64 0]:List Value).toArray 55)):=fun _=>by kernel_rfl
theorem eqi55 {d:Nat} (w:World) (x y:Place):(Op.equalIn (d+2) 55 (.agg (litsPlace x).toArray) (.agg (litsPlace y).toArray)).run Try.prog w = .ok (decide (x=y)) w:=by
 have hu:Try.prog.underlying 55=some (.struct (Try.prog.fieldsOf 55)):=by kernel_rfl
 have hp:Try.prog.stoodInHeld 55=false:=by kernel_rfl
 have hf:(Try.prog.fieldsOf 55).toList=[{ name := "Rule",type:=3,offset:=0,embedded:=false,tag := "",pkgPath := "",byteOffset:=0 },{ name := "Conj",type:=3,offset:=1,embedded:=false,tag := "",pkgPath := "",byteOffset:=8 },{ name := "Pos",type:=3,offset:=2,embedded:=false,tag := "",pkgPath := "",byteOffset:=16 }]:=by kernel_rfl
 rw [run_equalIn_struct w _ 55 _ _ hu hp,hf]
 rw [eqF_int (f:={ name := "Rule",type:=3,offset:=0,embedded:=false,tag := "",pkgPath := "",byteOffset:=0 }) (a:=x.Rule) (b:=y.Rule) (by decide +kernel) g3 Try.underlying3 rfl rfl,eqF_int (f:={ name := "Conj",type:=3,offset:=1,embedded:=false,tag := "",pkgPath := "",byteOffset:=8 }) (a:=x.Conj) (b:=y.Conj) (by decide +kernel) g3 Try.underlying3 rfl rfl,eqF_int (f:={ name := "Pos",type:=3,offset:=2,embedded:=false,tag := "",pkgPath := "",byteOffset:=16 }) (a:=x.Pos) (b:=y.Pos) (by decide +kernel) g3 Try.underlying3 rfl rfl,eqF_nil]
 simp only [ok_ite]
 exact congrArg (fun b=>Result.ok b w) (decide_eq_decide.2 ⟨fun h=>by cases x;cases y;simp_all,fun h=>by subst h;simp⟩)
theorem ck55 (w:World) (em:Bool) (x:Place):(Instr.checkKey em 10000 55 (kvPlace x)).run Try.prog w = .ok () w:=by
 have hu:Try.prog.underlying 55=some (.struct (Try.prog.fieldsOf 55)):=by kernel_rfl
 have hf:(Try.prog.fieldsOf 55).toList=[{ name := "Rule",type:=3,offset:=0,embedded:=false,tag := "",pkgPath := "",byteOffset:=0 },{ name := "Conj",type:=3,offset:=1,embedded:=false,tag := "",pkgPath := "",byteOffset:=8 },{ name := "Pos",type:=3,offset:=2,embedded:=false,tag := "",pkgPath := "",byteOffset:=16 }]:=by kernel_rfl
 refine run_check_st (m:=9999) hu ?_
 rw [hf]
 exact ⟨fun _=>⟨_,part_one g3 rfl,Go.MapKept.run_checkKey (k:=.int .i64 x.Rule) Try.underlying3 rfl em 9998⟩,fun _=>⟨_,part_one g3 rfl,Go.MapKept.run_checkKey (k:=.int .i64 x.Conj) Try.underlying3 rfl em 9998⟩,fun _=>⟨_,part_one g3 rfl,Go.MapKept.run_checkKey (k:=.int .i64 x.Pos) Try.underlying3 rfl em 9998⟩,trivial⟩
theorem mk55:MK Try.prog 55 kvPlace:=mkSt (by kernel_rfl) (fun a b h=>by cases a;cases b;simp [litsPlace] at h;simp [h]) ck55 (fun w x y=>eqi55 (d:=9998) w x y) (fun x v hv=>by simp [litsPlace] at hv;rcases hv with rfl | rfl | rfl <;> simp [Instr.sameBits])
theorem ent53:Ent Try.prog 53:=fun _ _=>by kernel_rfl
theorem mk3:MK Try.prog 3 (fun x:Int=>Value.int .i64 x):=mkInt Try.underlying3
theorem ent35:Ent Try.prog 35:=fun _ _=>by kernel_rfl
theorem ent55:Ent Try.prog 55:=fun _ _=>by kernel_rfl
theorem ent54:Ent Try.prog 54:=fun _ _=>by kernel_rfl
theorem ent27:Ent Try.prog 27:=fun _ _=>by kernel_rfl
theorem ent29:Ent Try.prog 29:=fun _ _=>by kernel_rfl
theorem ent51:Ent Try.prog 51:=fun _ _=>by kernel_rfl
theorem ent28:Ent Try.prog 28:=fun _ _=>by kernel_rfl
theorem ent31:Ent Try.prog 31:=fun _ _=>by kernel_rfl
theorem ent60:Ent Try.prog 60:=fun _ _=>by kernel_rfl
theorem ent61:Ent Try.prog 61:=fun _ _=>by kernel_rfl
theorem ent62:Ent Try.prog 62:=fun _ _=>by kernel_rfl
theorem ent44:Ent Try.prog 44:=fun _ _=>by kernel_rfl
theorem ent45:Ent Try.prog 45:=fun _ _=>by kernel_rfl
theorem ent46:Ent Try.prog 46:=fun _ _=>by kernel_rfl
theorem ent73:Ent Try.prog 73:=fun _ _=>by kernel_rfl
theorem eq55 {n:Nat} {fr:Fr} {H:List Res} {t' ty:TypeId} {a b:Operand} {x y:Place} (hx:arg fr a=some (.agg (cPlace.e x))) (hy:arg fr b=some (.agg (cPlace.e y))):D Try.prog n H (.binOp .eql 55 a b t') ty fr (Ab (decide (x=y))):=Qe litsPlace (by kernel_rfl) (fun _=>rfl) (fun w x y=>eqi55 (d:=9998) w x y) hx hy
theorem eq55n {n:Nat} {fr:Fr} {H:List Res} {t' ty:TypeId} {a b:Operand} {x y:Place} (hx:arg fr a=some (.agg (cPlace.e x))) (hy:arg fr b=some (.agg (cPlace.e y))):D Try.prog n H (.binOp .neq 55 a b t') ty fr (Ab (decide (x≠y))):=we litsPlace (by kernel_rfl) (fun _=>rfl) (fun w x y=>eqi55 (d:=9998) w x y) hx hy
theorem ent57:Ent Try.prog 57:=fun _ _=>by kernel_rfl
theorem ve:Info Try.prog 4 (.bool false) 1 1:=by unfold Info;kernel_rfl
theorem z4:SizeIs Try.prog 4 1:=fun _=>by kernel_rfl
theorem ent37:Ent Try.prog 37:=fun _ _=>by kernel_rfl
theorem ent24:Ent Try.prog 24:=fun _ _=>by kernel_rfl
theorem ent32:Ent Try.prog 32:=fun _ _=>by kernel_rfl
theorem ent33:Ent Try.prog 33:=fun _ _=>by kernel_rfl
theorem z5:SizeIs Try.prog 5 1:=fun _=>by kernel_rfl
theorem te:Info Try.prog 5 (.int .u8 0) 1 1:=by unfold Info;kernel_rfl
theorem ent58:Ent Try.prog 58:=fun _ _=>by kernel_rfl
theorem fa78_2:FA Try.prog 78 2 3:=fun _ _=>by kernel_rfl
theorem g76:IsAgg Try.prog 76 false:=fun _=>by kernel_rfl
theorem zv3:∀ w,(zeroValue 3).run Try.prog w = .ok (.int .i64 0) w:=fun _=>by kernel_rfl
theorem fa78_1:FA Try.prog 78 1 1:=fun _ _=>by kernel_rfl
theorem fa37_0:FA Try.prog 37 0 0:=fun _ _=>by kernel_rfl
theorem g34:IsAgg Try.prog 34 false:=fun _=>by kernel_rfl
def cLPlaceG:Co ((List Place)×Value):=⟨fun x=>[.sv x.2],1,by decide,fun _=>rfl,fun _=>⟨oSv,trivial⟩⟩
abbrev f5:Tg (List Place):=⟨Value,26,cLPlaceG,(cL cPlace),fun x u=>[.own 55 cPlace u x],rfl,fun hc h=>lend_ok (.o 0 rfl (.n)) hc h⟩
theorem z26:SizeIs Try.prog 26 1:=fun _=>by kernel_rfl
theorem Gd:Info Try.prog 26 (.slice none 0 0) 1 24:=by unfold Info;kernel_rfl
theorem z34:SizeIs Try.prog 34 1:=fun _=>by kernel_rfl
def litsSymbol (x:Symbol):List Value:=[.int .i64 x.Name,.int .i64 x.Lo,.int .i64 x.Hi]
def kvSymbol (x:Symbol):Value:=.agg (litsSymbol x).toArray
theorem g26:IsAgg Try.prog 26 false:=fun _=>by kernel_rfl
theorem fa78_0:FA Try.prog 78 0 0:=fun _ _=>by kernel_rfl
theorem g70:IsAgg Try.prog 70 false:=fun _=>by kernel_rfl
theorem eqi51 {d:Nat} (w:World) (x y:Symbol):(Op.equalIn (d+2) 51 (.agg (litsSymbol x).toArray) (.agg (litsSymbol y).toArray)).run Try.prog w = .ok (decide (x=y)) w:=by
 have hu:Try.prog.underlying 51=some (.struct (Try.prog.fieldsOf 51)):=by kernel_rfl
 have hp:Try.prog.stoodInHeld 51=false:=by kernel_rfl
 have hf:(Try.prog.fieldsOf 51).toList=[{ name := "Name",type:=3,offset:=0,embedded:=false,tag := "",pkgPath := "",byteOffset:=0 },{ name := "Lo",type:=3,offset:=1,embedded:=false,tag := "",pkgPath := "",byteOffset:=8 },{ name := "Hi",type:=3,offset:=2,embedded:=false,tag := "",pkgPath := "",byteOffset:=16 }]:=by kernel_rfl
 rw [run_equalIn_struct w _ 51 _ _ hu hp,hf]
 rw [eqF_int (f:={ name := "Name",type:=3,offset:=0,embedded:=false,tag := "",pkgPath := "",byteOffset:=0 }) (a:=x.Name) (b:=y.Name) (by decide +kernel) g3 Try.underlying3 rfl rfl,eqF_int (f:={ name := "Lo",type:=3,offset:=1,embedded:=false,tag := "",pkgPath := "",byteOffset:=8 }) (a:=x.Lo) (b:=y.Lo) (by decide +kernel) g3 Try.underlying3 rfl rfl,eqF_int (f:={ name := "Hi",type:=3,offset:=2,embedded:=false,tag := "",pkgPath := "",byteOffset:=16 }) (a:=x.Hi) (b:=y.Hi) (by decide +kernel) g3 Try.underlying3 rfl rfl,eqF_nil]
 simp only [ok_ite]
 exact congrArg (fun b=>Result.ok b w) (decide_eq_decide.2 ⟨fun h=>by cases x;cases y;simp_all,fun h=>by subst h;simp⟩)
theorem ck51 (w:World) (em:Bool) (x:Symbol):(Instr.checkKey em 10000 51 (kvSymbol x)).run Try.prog w = .ok () w:=by
 have hu:Try.prog.underlying 51=some (.struct (Try.prog.fieldsOf 51)):=by kernel_rfl
 have hf:(Try.prog.fieldsOf 51).toList=[{ name := "Name",type:=3,offset:=0,embedded:=false,tag := "",pkgPath := "",byteOffset:=0 },{ name := "Lo",type:=3,offset:=1,embedded:=false,tag := "",pkgPath := "",byteOffset:=8 },{ name := "Hi",type:=3,offset:=2,embedded:=false,tag := "",pkgPath := "",byteOffset:=16 }]:=by kernel_rfl
 refine run_check_st (m:=9999) hu ?_
 rw [hf]
 exact ⟨fun _=>⟨_,part_one g3 rfl,Go.MapKept.run_checkKey (k:=.int .i64 x.Name) Try.underlying3 rfl em 9998⟩,fun _=>⟨_,part_one g3 rfl,Go.MapKept.run_checkKey (k:=.int .i64 x.Lo) Try.underlying3 rfl em 9998⟩,fun _=>⟨_,part_one g3 rfl,Go.MapKept.run_checkKey (k:=.int .i64 x.Hi) Try.underlying3 rfl em 9998⟩,trivial⟩
theorem mk51:MK Try.prog 51 kvSymbol:=mkSt (by kernel_rfl) (fun a b h=>by cases a;cases b;simp [litsSymbol] at h;simp [h]) ck51 (fun w x y=>eqi51 (d:=9998) w x y) (fun x v hv=>by simp [litsSymbol] at hv;rcases hv with rfl | rfl | rfl <;> simp [Instr.sameBits])
theorem zv26:∀ w,(zeroValue 26).run Try.prog w = .ok (.slice none 0 0) w:=fun _=>by kernel_rfl
theorem fa37_1:FA Try.prog 37 1 1:=fun _ _=>by kernel_rfl
theorem g35:IsAgg Try.prog 35 false:=fun _=>by kernel_rfl
theorem ent34:Ent Try.prog 34:=fun _ _=>by kernel_rfl
theorem zv53:∀ w,(zeroValue 53).run Try.prog w = .ok (.agg ([.int .i64 0,.int .i64 0,.int .i64 0,.int .i64 0,.int .i64 0]:List Value).toArray) w:=fun _=>by kernel_rfl
theorem pl53:∀ w,((#[{ name := "From",type:=3,offset:=0,embedded:=false,tag := "",pkgPath := "",byteOffset:=0 },{ name := "Symbol",type:=51,offset:=1,embedded:=false,tag := "",pkgPath := "",byteOffset:=8 },{ name := "To",type:=3,offset:=4,embedded:=false,tag := "",pkgPath := "",byteOffset:=32 }]:Array Field).mapM (m:=Sem) fun f=>do pure (f.offset,← sizeOf f.type)).run Try.prog w = .ok #[(0,1),(1,3),(4,1)] w:=fun _=>by kernel_rfl
theorem z53:SizeIs Try.prog 53 5:=fun _=>by kernel_rfl
theorem pd:Info Try.prog 53 (.agg #[.int .i64 0,.int .i64 0,.int .i64 0,.int .i64 0,.int .i64 0]) 5 40:=by unfold Info;kernel_rfl
theorem z35:SizeIs Try.prog 35 1:=fun _=>by kernel_rfl
theorem al37:∀ w,(Instr.alloc 37 true (.tuple #[])).run Try.prog w = .ok (.pointer (some ⟨w.heap.size,0,none⟩)) (w.alloc (.cells ([.slice none 0 0,.slice none 0 0]:List Value).toArray 37)):=fun _=>by kernel_rfl
theorem zv37:∀ w,(zeroValue 37).run Try.prog w = .ok (.agg ([.slice none 0 0,.slice none 0 0]:List Value).toArray) w:=fun _=>by kernel_rfl
theorem pl37:∀ w,((#[{ name := "States",type:=34,offset:=0,embedded:=false,tag := "",pkgPath := "",byteOffset:=0 },{ name := "Moves",type:=35,offset:=1,embedded:=false,tag := "",pkgPath := "",byteOffset:=24 }]:Array Field).mapM (m:=Sem) fun f=>do pure (f.offset,← sizeOf f.type)).run Try.prog w = .ok #[(0,1),(1,1)] w:=fun _=>by kernel_rfl
theorem z37:SizeIs Try.prog 37 2:=fun _=>by kernel_rfl
theorem g37:IsAgg Try.prog 37 true:=fun _=>by kernel_rfl
theorem zv78:∀ w,(zeroValue 78).run Try.prog w = .ok (.agg ([.pointer none,.slice none 0 0,.slice none 0 0,.map none]:List Value).toArray) w:=fun _=>by kernel_rfl
theorem pl78:∀ w,((#[{ name := "g",type:=70,offset:=0,embedded:=false,tag := "",pkgPath := "temple/items",byteOffset:=0 },{ name := "a",type:=37,offset:=1,embedded:=false,tag := "",pkgPath := "temple/items",byteOffset:=8 },{ name := "by",type:=76,offset:=3,embedded:=false,tag := "",pkgPath := "temple/items",byteOffset:=56 }]:Array Field).mapM (m:=Sem) fun f=>do pure (f.offset,← sizeOf f.type)).run Try.prog w = .ok #[(0,1),(1,2),(3,1)] w:=fun _=>by kernel_rfl
theorem ent36:Ent Try.prog 36:=fun _ _=>by kernel_rfl
theorem eq51 {n:Nat} {fr:Fr} {H:List Res} {t' ty:TypeId} {a b:Operand} {x y:Symbol} (hx:arg fr a=some (.agg (cSymbol.e x))) (hy:arg fr b=some (.agg (cSymbol.e y))):D Try.prog n H (.binOp .eql 51 a b t') ty fr (Ab (decide (x=y))):=Qe litsSymbol (by kernel_rfl) (fun _=>rfl) (fun w x y=>eqi51 (d:=9998) w x y) hx hy
theorem ent23:Ent Try.prog 23:=fun _ _=>by kernel_rfl
theorem g53:IsAgg Try.prog 53 true:=fun _=>by kernel_rfl
def litsMove (x:Move):List Value:=[.int .i64 x.From,.int .i64 x.Symbol.Name,.int .i64 x.Symbol.Lo,.int .i64 x.Symbol.Hi,.int .i64 x.To]
theorem eqi53 {d:Nat} (w:World) (x y:Move):(Op.equalIn (d+3) 53 (.agg (litsMove x).toArray) (.agg (litsMove y).toArray)).run Try.prog w = .ok (decide (x=y)) w:=by
 have hu:Try.prog.underlying 53=some (.struct (Try.prog.fieldsOf 53)):=by kernel_rfl
 have hp:Try.prog.stoodInHeld 53=false:=by kernel_rfl
 have hf:(Try.prog.fieldsOf 53).toList=[{ name := "From",type:=3,offset:=0,embedded:=false,tag := "",pkgPath := "",byteOffset:=0 },{ name := "Symbol",type:=51,offset:=1,embedded:=false,tag := "",pkgPath := "",byteOffset:=8 },{ name := "To",type:=3,offset:=4,embedded:=false,tag := "",pkgPath := "",byteOffset:=32 }]:=by kernel_rfl
 rw [run_equalIn_struct w _ 53 _ _ hu hp,hf]
 rw [eqF_int (f:={ name := "From",type:=3,offset:=0,embedded:=false,tag := "",pkgPath := "",byteOffset:=0 }) (a:=x.From) (b:=y.From) (by decide +kernel) g3 Try.underlying3 rfl rfl,eqF_agg (f:={ name := "Symbol",type:=51,offset:=1,embedded:=false,tag := "",pkgPath := "",byteOffset:=8 }) (p:=x.Symbol=y.Symbol) (us:=litsSymbol x.Symbol) (vs:=litsSymbol y.Symbol) (by decide +kernel) g51 z51 rfl rfl (eqi51 w _ _),eqF_int (f:={ name := "To",type:=3,offset:=4,embedded:=false,tag := "",pkgPath := "",byteOffset:=32 }) (a:=x.To) (b:=y.To) (by decide +kernel) g3 Try.underlying3 rfl rfl,eqF_nil]
 simp only [ok_ite]
 exact congrArg (fun b=>Result.ok b w) (decide_eq_decide.2 ⟨fun h=>by cases x;cases y;simp_all,fun h=>by subst h;simp⟩)
theorem eq53n {n:Nat} {fr:Fr} {H:List Res} {t' ty:TypeId} {a b:Operand} {x y:Move} (hx:arg fr a=some (.agg (cMove.e x))) (hy:arg fr b=some (.agg (cMove.e y))):D Try.prog n H (.binOp .neq 53 a b t') ty fr (Ab (decide (x≠y))):=we litsMove (by kernel_rfl) (fun _=>rfl) (fun w x y=>eqi53 (d:=9997) w x y) hx hy
theorem ent41:Ent Try.prog 41:=fun _ _=>by kernel_rfl
theorem ent15:Ent Try.prog 15:=fun _ _=>by kernel_rfl
theorem ent13:Ent Try.prog 13:=fun _ _=>by kernel_rfl
theorem ent11:Ent Try.prog 11:=fun _ _=>by kernel_rfl
theorem ent16:Ent Try.prog 16:=fun _ _=>by kernel_rfl
theorem ent12:Ent Try.prog 12:=fun _ _=>by kernel_rfl
theorem ent21:Ent Try.prog 21:=fun _ _=>by kernel_rfl
theorem al53:∀ w,(Instr.alloc 53 true (.tuple #[])).run Try.prog w = .ok (.pointer (some ⟨w.heap.size,0,none⟩)) (w.alloc (.cells ([.int .i64 0,.int .i64 0,.int .i64 0,.int .i64 0,.int .i64 0]:List Value).toArray 53)):=fun _=>by kernel_rfl
theorem fa53_0:FA Try.prog 53 0 0:=fun _ _=>by kernel_rfl
theorem fa53_2:FA Try.prog 53 2 4:=fun _ _=>by kernel_rfl
theorem ent22:Ent Try.prog 22:=fun _ _=>by kernel_rfl
theorem fa53_1:FA Try.prog 53 1 1:=fun _ _=>by kernel_rfl
def cConjunctH:Co (Conjunct×Value):=⟨fun x=>[Ab x.1.Neg,.sv x.2],2,by decide,fun _=>rfl,fun _=>⟨oLit rfl,oSv,trivial⟩⟩
def trConjunct:Tr Conjunct:=⟨58,cConjunctH,cConjunct,fun x u=>.own 51 cSymbol u x.Seq,rfl,fun hc h=>(AllP.st (fun _ y=>.inl y) (fun _ _=>rfl) h).imp' (i:=1) rfl (fun w hw=>by rw [hw.1];exact own_fsl hc) rfl⟩
theorem z56:SizeIs Try.prog 56 1:=fun _=>by kernel_rfl
theorem ent63:Ent Try.prog 63:=fun _ _=>by kernel_rfl
theorem zv118:∀ w,(zeroValue 118).run Try.prog w = .ok (.agg ([.int .i64 0,.int .i64 0,.bool false]:List Value).toArray) w:=fun _=>by kernel_rfl
theorem pl118:∀ w,((#[{ name := "From",type:=3,offset:=0,embedded:=false,tag := "",pkgPath := "",byteOffset:=0 },{ name := "To",type:=3,offset:=1,embedded:=false,tag := "",pkgPath := "",byteOffset:=8 },{ name := "Neg",type:=4,offset:=2,embedded:=false,tag := "",pkgPath := "",byteOffset:=16 }]:Array Field).mapM (m:=Sem) fun f=>do pure (f.offset,← sizeOf f.type)).run Try.prog w = .ok #[(0,1),(1,1),(2,1)] w:=fun _=>by kernel_rfl
theorem z118:SizeIs Try.prog 118 3:=fun _=>by kernel_rfl
theorem fd:Info Try.prog 118 (.agg #[.int .i64 0,.int .i64 0,.bool false]) 3 24:=by unfold Info;kernel_rfl
theorem fa118_0:FA Try.prog 118 0 0:=fun _ _=>by kernel_rfl
theorem fa118_1:FA Try.prog 118 1 1:=fun _ _=>by kernel_rfl
theorem ent64:Ent Try.prog 64:=fun _ _=>by kernel_rfl
theorem ent65:Ent Try.prog 65:=fun _ _=>by kernel_rfl
theorem ent47:Ent Try.prog 47:=fun _ _=>by kernel_rfl
theorem ent48:Ent Try.prog 48:=fun _ _=>by kernel_rfl
theorem ent25:Ent Try.prog 25:=fun _ _=>by kernel_rfl
set_option maxRecDepth 100000
set_option maxHeartbeats 4000000
def W5.l1 (K:Nat) (a1:Grammar) (i23:Int):Nat→((List Conjunct)×Int)→Option ((List Conjunct)×Int)
 | 0,_=>none
 | m+1,(xs30,j31)=>if j31<(((rd a1.Rules i23).Conj).length:Int) then if 0≤j31 then if (([]:List Symbol).length+((rd ((rd a1.Rules i23).Conj) j31).Seq).length)*24≤140737488355328 then if (xs30.length+1)*32≤140737488355328 then W5.l1 K a1 i23 m (xs30++[(⟨(rd ((rd a1.Rules i23).Conj) j31).Neg,([]:List Symbol)++((rd ((rd a1.Rules i23).Conj) j31).Seq)⟩:Conjunct)],IntKind.wrap .i64 (j31+1)) else none else none else none else some (xs30,j31)
def W5.l0 (K:Nat) (a1:Grammar):Nat→((List Rule)×Int)→Option ((List Rule)×Int)
 | 0,_=>none
 | m+1,(xs22,i23)=>if i23<(a1.Rules.length:Int) then if 0≤i23 then (W5.l1 K a1 i23 K (([]:List Conjunct),0)).bind fun (xs30,j31)=>if (xs22.length+1)*32≤140737488355328 then W5.l0 K a1 m (xs22++[(⟨(rd a1.Rules i23).Head,xs30⟩:Rule)],IntKind.wrap .i64 (i23+1)) else none else none else some (xs22,i23)
def W5 (K:Nat) (a1:Grammar):Option Grammar:=if (([]:List ByteArray).length+a1.Names.length)*16≤140737488355328 then (some ()).bind fun _=>(W5.l0 K a1 K (([]:List Rule),0)).bind fun (xs22,i23)=>some (⟨a1.Start,([]:List ByteArray)++a1.Names,xs22⟩:Grammar) else none
def za (K:Nat) (a1:(List Place)):Option (List Place):=if (([]:List Place).length+a1.length)*24≤140737488355328 then some (([]:List Place)++a1) else none
def wa (K:Nat) (a1:(List Place)):Option ((List Place)×Int):=(za K a1).bind fun r2=>if (r2.length+([(⟨77777,(0:Int),(0:Int)⟩:Place),(⟨77777,(0:Int),(0:Int)⟩:Place)]:List Place).length)*24≤140737488355328 then if (a1.length:Int)≤((r2++([(⟨77777,(0:Int),(0:Int)⟩:Place),(⟨77777,(0:Int),(0:Int)⟩:Place)]:List Place)).length:Int) then some (r2++([(⟨77777,(0:Int),(0:Int)⟩:Place),(⟨77777,(0:Int),(0:Int)⟩:Place)]:List Place),(a1.length:Int)) else none else none
def G9 (K:Nat) (c1:Int):Option Bool:=if 65≤c1 then if c1≤90 then some true else if 97≤c1 then if c1≤122 then some true else some (decide (c1=95)) else some (decide (c1=95)) else if 97≤c1 then if c1≤122 then some true else some (decide (c1=95)) else some (decide (c1=95))
theorem gb (K:Nat) (c1:Int):Pure Try.prog 74 [Ai .u8 c1] (G9 K c1) (fun r=>Ab r):=by
 refine spec_of' Try.func74 rfl Try.ntmps74 (le_ rfl) ?_
 refine sSR Y<|sA Y Y<|sES Y<|sM Y Y<|sQ (dGe Y Y) Y<|sM Y Y<|M3 (fun h2=>?_) (fun h2=>?_)
 ·refine sG 2 Y Y Y (dT h2) Y (dMv Y) Y<|sG 2 Y Y Y (dT h2) Y (dLe Y Y) Y<|sQ (G0 Y (dT h2) Y) Y<|sM Y Y<|M3 (fun h3=>?_) (fun h3=>?_)
  ·refine sU 6 Y Y Y (dT h3) Y Y<|sU 6 Y Y Y (dT h3) Y Y<|sU 6 Y Y Y (dT h3) Y Y<|sQv (j:=9) Y Y Y Y Y<|sQv (j:=9) Y Y Y Y Y<|sU 6 Y Y Y (dT h3) Y Y<|sQ (G0 Y (dT h3) Y) Y<|sM Y Y<|sU 14 Y Y Y Y Y Y<|sU 14 Y Y Y Y Y Y<|sQ (G0 Y Y Y) Y<|sA Y Y<|j0<|M0 [] Try.func74 Try.results74 (rT Y) ⟨Y,Y⟩
  ·refine sG 6 Y Y Y (dF h3) Y (dMv Y) Y<|sG 6 Y Y Y (dF h3) Y (dGe Y Y) Y<|sG 6 Y Y Y (dF h3) Y (dMv Y) Y<|M3 (fun h4=>?_) (fun h4=>?_)
   ·refine sG 9 Y Y Y (dT h4) Y (dMv Y) Y<|sG 9 Y Y Y (dT h4) Y (dLe Y Y) Y<|sG 6 Y Y Y (dF h3) Y (G0 Y (dT h4) Y) Y<|sQ (P0 Y (dF h3) Y) Y<|sM Y Y<|M3 (fun h5=>?_) (fun h5=>?_)
    ·refine sU 14 Y Y Y (dT h5) Y Y<|sU 14 Y Y Y (dT h5) Y Y<|sQ (G0 Y (dT h5) Y) Y<|sA Y Y<|j0<|M0 [] Try.func74 Try.results74 (rT Y) ⟨Y,Y⟩
    ·refine sG 14 Y Y Y (dF h5) Y (dMv Y) Y<|sG 14 Y Y Y (dF h5) Y (dEq Y Y) Y<|sQ (P0 Y (dF h5) Y) Y<|sA Y Y<|j0<|M0 [] Try.func74 Try.results74 (rT Y) ⟨Y,Y⟩
   ·refine sU 9 Y Y Y (dF h4) Y Y<|sU 9 Y Y Y (dF h4) Y Y<|sG 6 Y Y Y (dF h3) Y (P0 Y (dF h4) Y) Y<|sQ (P0 Y (dF h3) Y) Y<|sM Y Y<|sG 14 Y Y Y Y Y (dMv Y) Y<|sG 14 Y Y Y Y Y (dEq Y Y) Y<|sQ (P0 Y Y Y) Y<|sA Y Y<|j0<|M0 [] Try.func74 Try.results74 (rT Y) ⟨Y,Y⟩
 ·refine sU 2 Y Y Y (dF h2) Y Y<|sU 2 Y Y Y (dF h2) Y Y<|sQ (P0 Y (dF h2) Y) Y<|sM Y Y<|sG 6 Y Y Y Y Y (dMv Y) Y<|sG 6 Y Y Y Y Y (dGe Y Y) Y<|sG 6 Y Y Y Y Y (dMv Y) Y<|M3 (fun h6=>?_) (fun h6=>?_)
  ·refine sG 9 Y Y Y (dT h6) Y (dMv Y) Y<|sG 9 Y Y Y (dT h6) Y (dLe Y Y) Y<|sG 6 Y Y Y Y Y (G0 Y (dT h6) Y) Y<|sQ (P0 Y Y Y) Y<|sM Y Y<|M3 (fun h7=>?_) (fun h7=>?_)
   ·refine sU 14 Y Y Y (dT h7) Y Y<|sU 14 Y Y Y (dT h7) Y Y<|sQ (G0 Y (dT h7) Y) Y<|sA Y Y<|j0<|M0 [] Try.func74 Try.results74 (rT Y) ⟨Y,Y⟩
   ·refine sG 14 Y Y Y (dF h7) Y (dMv Y) Y<|sG 14 Y Y Y (dF h7) Y (dEq Y Y) Y<|sQ (P0 Y (dF h7) Y) Y<|sA Y Y<|j0<|M0 [] Try.func74 Try.results74 (rT Y) ⟨Y,Y⟩
  ·refine sU 9 Y Y Y (dF h6) Y Y<|sU 9 Y Y Y (dF h6) Y Y<|sG 6 Y Y Y Y Y (P0 Y (dF h6) Y) Y<|sQ (P0 Y Y Y) Y<|sM Y Y<|sG 14 Y Y Y Y Y (dMv Y) Y<|sG 14 Y Y Y Y Y (dEq Y Y) Y<|sQ (P0 Y Y Y) Y<|sA Y Y<|j0<|M0 [] Try.func74 Try.results74 (rT Y) ⟨Y,Y⟩
def vb (K:Nat) (c1:Int):Option Bool:=(G9 K c1).bind fun r2=>if r2=true then some true else if 48≤c1 then some (decide (c1≤57)) else some false
theorem Jc (K:Nat) (c1:Int):Pure Try.prog 75 [Ai .u8 c1] (vb K c1) (fun r=>Ab r):=by
 refine spec_of' Try.func75 rfl Try.ntmps75 (le_ rfl) ?_
 refine sSR Y<|sA Y Y<|sES Y<|sM Y Y<|j4 fun r2 e3=>sQ (J4 ent74 (gb K _) e3 (.s Y .nil)) Y<|sM Y Y<|M3 (fun h4=>?_) (fun h4=>?_)
 ·refine sU 2 Y Y Y h4 Y Y<|sU 2 Y Y Y h4 Y Y<|sU 2 Y Y Y h4 Y Y<|sQv (j:=5) Y Y Y Y Y<|sQv (j:=5) Y Y Y Y Y<|sU 2 Y Y Y h4 Y Y<|sQ (G0 Y h4 Y) Y<|sA Y Y<|j0<|M0 [] Try.func75 Try.results75 (rT Y) ⟨Y,Y⟩
 ·refine sG 2 Y Y Y (eF h4) Y (dMv Y) Y<|sG 2 Y Y Y (eF h4) Y (dGe Y Y) Y<|sG 2 Y Y Y (eF h4) Y (dMv Y) Y<|M3 (fun h5=>?_) (fun h5=>?_)
  ·refine sG 5 Y Y Y (dT h5) Y (dMv Y) Y<|sG 5 Y Y Y (dT h5) Y (dLe Y Y) Y<|sG 2 Y Y Y (eF h4) Y (G0 Y (dT h5) Y) Y<|sQ (P0 Y (eF h4) Y) Y<|sA Y Y<|j0<|M0 [] Try.func75 Try.results75 (rT Y) ⟨Y,Y⟩
  ·refine sU 5 Y Y Y (dF h5) Y Y<|sU 5 Y Y Y (dF h5) Y Y<|sG 2 Y Y Y (eF h4) Y (P0 Y (dF h5) Y) Y<|sQ (P0 Y (eF h4) Y) Y<|sA Y Y<|j0<|M0 [] Try.func75 Try.results75 (rT Y) ⟨Y,Y⟩
def y8.l0 (K:Nat) (s1:ByteArray):Nat→Int→Option (Int ⊕ Bool)
 | 0,_=>none
 | m+1,t9=>if t9<(s1.size:Int) then if 0≤t9 then (vb K (bt s1 t9)).bind fun r12=>if (!r12)=true then some (.inr false) else y8.l0 K s1 m (IntKind.wrap .i64 (t9+1)) else none else some (.inl t9)
def y8 (K:Nat) (s1:ByteArray):Option Bool:=if s1=(⟨#[]⟩:ByteArray) then some false else if 32<(s1.size:Int) then some false else if s1=(⟨#[115,116,97,114,116]⟩:ByteArray) then some false else if 0<(s1.size:Int) then (G9 K (bt s1 0)).bind fun r6=>if (!r6)=true then some false else brk (y8.l0 K s1 K 0) fun t9=>some true else none
theorem Lc (K:Nat) (s1:ByteArray):Pure Try.prog 66 [.lit (.string s1)] (y8 K s1) (fun r=>Ab r):=by
 refine spec_of' Try.func66 rfl Try.ntmps66 (le_ rfl) ?_
 refine sSR Y<|sA Y Y<|j0<|W0<|sSR Y<|sM Y Y<|sQ (ce Y Y) Y<|sM Y Y<|M3 (fun h2=>?_) (fun h2=>?_)
 ·refine sU 2 Y Y Y (dT h2) Y Y<|sU 2 Y Y Y (dT h2) Y Y<|sU 2 Y Y Y (dT h2) Y Y<|sQ (G0 Y (dT h2) Y) Y<|sM Y Y<|sU 7 Y Y Y Y Y Y<|sU 7 Y Y Y Y Y Y<|sQ (G0 Y Y Y) Y<|sM Y Y<|sU 11 Y Y Y Y Y Y<|sU 11 Y Y Y Y Y Y<|sU 11 Y Y Y Y Y Y<|sU 11 Y Y Y Y Y Y<|sQ (G0 Y Y Y) Y<|j0<|M4 Y Y<|sSR Y<|sA Y Y<|j0<|M0 [] Try.func66 Try.results66 (rT Y) ⟨Y,Y⟩
 ·refine sG 2 Y Y Y (dF h2) Y (dMv Y) Y<|sG 2 Y Y Y (dF h2) Y (Mc Try.underlying9 Y) Y<|sG 2 Y Y Y (dF h2) Y (dGt Y Y) Y<|sQ (P0 Y (dF h2) Y) Y<|sM Y Y<|M3 (fun h3=>?_) (fun h3=>?_)
  ·refine sU 7 Y Y Y (dT h3) Y Y<|sU 7 Y Y Y (dT h3) Y Y<|sQ (G0 Y (dT h3) Y) Y<|sM Y Y<|sU 11 Y Y Y Y Y Y<|sU 11 Y Y Y Y Y Y<|sU 11 Y Y Y Y Y Y<|sU 11 Y Y Y Y Y Y<|sQ (G0 Y Y Y) Y<|j0<|M4 Y Y<|sSR Y<|sA Y Y<|j0<|M0 [] Try.func66 Try.results66 (rT Y) ⟨Y,Y⟩
  ·refine sG 7 Y Y Y (dF h3) Y (dMv Y) Y<|sG 7 Y Y Y (dF h3) Y (ce Y Y) Y<|sQ (P0 Y (dF h3) Y) Y<|sM Y Y<|M3 (fun h4=>?_) (fun h4=>?_)
   ·refine sU 11 Y Y Y (dT h4) Y Y<|sU 11 Y Y Y (dT h4) Y Y<|sU 11 Y Y Y (dT h4) Y Y<|sU 11 Y Y Y (dT h4) Y Y<|sQ (G0 Y (dT h4) Y) Y<|j0<|M4 Y Y<|sSR Y<|sA Y Y<|j0<|M0 [] Try.func66 Try.results66 (rT Y) ⟨Y,Y⟩
   ·refine sG 11 Y Y Y (dF h4) Y (dMv Y) Y<|V5 fun h5=>sG 11 Y Y Y (dF h4) Y (Vd Try.underlying9 Y Y (by decide) h5) Y<|j4 fun r6 e7=>sG 11 Y Y Y (dF h4) Y (J4 ent74 (gb K _) e7 (.s Y .nil)) Y<|sG 11 Y Y Y (dF h4) Y (z8 Y) Y<|sQ (P0 Y (dF h4) Y) Y<|j0<|k6 Y (fun h8=>?_) (fun h8=>?_)
    ·refine sSR Y<|sA Y Y<|j0<|M0 [] Try.func66 Try.results66 (rT Y) ⟨Y,Y⟩
    ·refine P1<|W0<|sSR Y<|sM Y Y<|sQ (Mc Try.underlying9 Y) Y<|sM Y Y<|j0<|G8 (y8.l0 K s1) (fun (t9:Int) (_:Unit)=>([(0,.lit (.string s1)),(22,Ai .i64 (s1.size:Int)),(23,Ai .i64 t9)]:Fr)) (fun (t9:Int) (_:Unit)=>([]:List Res)) () (fun _=>Y) [] ⟨Y,Y,Y,trivial⟩ Y ?_ ?_
     ·rintro t9 _
      refine sSR Y<|sA Y Y<|j0<|M0 [] Try.func66 Try.results66 (rT Y) ⟨Y,Y⟩
     ·rintro m t9 _ again0 out0
      refine sSR Y<|sQ (dLt Y Y) Y<|j0<|W0<|P3 Y (fun h10=>?_) (fun h10=>?_)
      ·refine P1<|W0<|J6<|sSR Y<|sM Y Y<|sA Y Y<|sES Y<|sM Y Y<|sM Y Y<|V5 fun h11=>sQ (Vd Try.underlying9 Y Y h11 h10) Y<|j4 fun r12 e13=>sQ (J4 ent75 (Jc K _) e13 (.s Y .nil)) Y<|sQ (z8 Y) Y<|j0<|k6 Y (fun h14=>?_) (fun h14=>?_)
       ·refine sSR Y<|sA Y Y<|j0<|y6<|M0 [] Try.func66 Try.results66 (rT Y) ⟨Y,Y⟩
       ·refine P1<|Q2<|y4 Y<|sQ (L5 Y Y) Y<|sM Y Y<|j0<|Q3 (again0 (IntKind.wrap .i64 (t9+1)) ()) [] ⟨Y,Y,Y,trivial⟩ Y
      ·refine W4 Y<|Q3 (out0 t9 ()) [] ⟨Y,Y,Y,trivial⟩ Y
def c7.l0 (K:Nat) (ns1:(List ByteArray)):Nat→((List (ByteArray×Bool))×Int)→Option (((List (ByteArray×Bool))×Int) ⊕ Bool)
 | 0,_=>none
 | m+1,(c5,t6)=>if t6<(ns1.length:Int) then if 0≤t6 then (y8 K (rd ns1 t6)).bind fun r9=>if (!r9)=true then some (.inr false) else if (mgetD false c5 (rd ns1 t6))=true then some (.inr false) else c7.l0 K ns1 m (mput c5 (rd ns1 t6) true,IntKind.wrap .i64 (t6+1)) else none else some (.inl (c5,t6))
def c7 (K:Nat) (ns1:(List ByteArray)):Option Bool:=if (ns1.length:Int)<1 then some false else if 64<(ns1.length:Int) then some false else brk (c7.l0 K ns1 K (([]:(List (ByteArray×Bool))),0)) fun (c5,t6)=>some true
theorem fc (K:Nat) (ns1:(List ByteArray)):Pure Try.prog 49 [.fsl cS ns1] (c7 K ns1) (fun r=>Ab r):=by
 refine spec_of' Try.func49 rfl Try.ntmps49 (le_ rfl) ?_
 refine sSR Y<|sA Y Y<|j0<|W0<|sSR Y<|sM Y Y<|sQ (L4 Try.underlying22 Y) Y<|sQ (dLt Y Y) Y<|sM Y Y<|M3 (fun h2=>?_) (fun h2=>?_)
 ·refine sU 3 Y Y Y (dT h2) Y Y<|sU 3 Y Y Y (dT h2) Y Y<|sU 3 Y Y Y (dT h2) Y Y<|sQ (G0 Y (dT h2) Y) Y<|j0<|M4 Y Y<|sSR Y<|sA Y Y<|j0<|M0 [] Try.func49 Try.results49 (rT Y) ⟨Y,Y⟩
 ·refine sG 3 Y Y Y (dF h2) Y (dMv Y) Y<|sG 3 Y Y Y (dF h2) Y (L4 Try.underlying22 Y) Y<|sG 3 Y Y Y (dF h2) Y (dGt Y Y) Y<|sQ (P0 Y (dF h2) Y) Y<|j0<|P3 Y (fun h3=>?_) (fun h3=>?_)
  ·refine sSR Y<|sA Y Y<|j0<|M0 [] Try.func49 Try.results49 (rT Y) ⟨Y,Y⟩
  ·refine P1<|sSR Y<|Ja (ek:=(fun x:ByteArray=>Value.string x)) (ev:=(fun x:Bool=>Value.bool x)) Y fun b4=>sA Y Y<|j0<|W0<|sSR Y<|sM Y Y<|sQ (L4 Try.underlying22 Y) Y<|sM Y Y<|j0<|G8 (c7.l0 K ns1) (fun ((c5,t6):((List (ByteArray×Bool))×Int)) (_:Unit)=>([(3,.lit (.map (some b4))),(15,.fsl cS ns1),(16,Ai .i64 (ns1.length:Int)),(17,Ai .i64 t6)]:Fr)) (fun ((c5,t6):((List (ByteArray×Bool))×Int)) (_:Unit)=>([.mp (fun x:ByteArray=>Value.string x) (fun x:Bool=>Value.bool x) b4 c5]:List Res)) () (fun _=>Y) [] ⟨Y,Y,Y,Y,trivial⟩ Y ?_ ?_
   ·rintro ⟨c5,t6⟩ _
    refine sSR Y<|sA Y Y<|j0<|M0 [0] Try.func49 Try.results49 (rT Y) ⟨Y,Y⟩
   ·rintro m ⟨c5,t6⟩ _ again0 out0
    refine sSR Y<|sQ (dLt Y Y) Y<|j0<|W0<|P3 Y (fun h7=>?_) (fun h7=>?_)
    ·refine P1<|W0<|J6<|sSR Y<|V5 fun h8=>sQ (dIx Try.underlying22 z9 Y Y h8 h7) Y<|sQ (dLd g9 Y Y) Y<|sA Y Y<|j0<|W0<|sSR Y<|sM Y Y<|j4 fun r9 e10=>sQ (J4 ent66 (Lc K _) e10 (.s Y .nil)) Y<|sQ (z8 Y) Y<|sM Y Y<|M3 (fun h11=>?_) (fun h11=>?_)
     ·refine sU 3 Y Y Y h11 Y Y<|sU 3 Y Y Y h11 Y Y<|sU 3 Y Y Y h11 Y Y<|sQ (G0 Y h11 Y) Y<|j0<|M4 Y Y<|sSR Y<|sA Y Y<|j0<|y6<|M0 [0] Try.func49 Try.results49 (rT Y) ⟨Y,Y⟩
     ·refine sG 3 Y Y Y (eF h11) Y (dMv Y) Y<|sG 3 Y Y Y (eF h11) Y (dMv Y) Y<|sG 3 Y Y Y (eF h11) Y (ye (j:=0) (z:=false) (ev:=(fun x:Bool=>Value.bool x)) mk9 Try.underlying121 zv4 Y Y Y (fun _ _ _ h=>h)) Y<|sQ (P0 Y (eF h11) Y) Y<|j0<|k6 Y (fun h12=>?_) (fun h12=>?_)
      ·refine sSR Y<|sA Y Y<|j0<|y6<|M0 [0] Try.func49 Try.results49 (rT Y) ⟨Y,Y⟩
      ·refine P1<|y4 Y<|sM Y Y<|sM Y Y<|qe (j:=0) (v:=true) (ev:=(fun x:Bool=>Value.bool x)) mk9 Try.underlying121 Y Y Y (fun _ _ _ h=>h) Y<|j0<|Q2<|y4 Y<|sQ (L5 Y Y) Y<|sM Y Y<|j0<|Q3 (again0 (mput c5 (rd ns1 t6) true,IntKind.wrap .i64 (t6+1)) ()) [0] ⟨Y,Y,Y,Y,trivial⟩ Y
    ·refine W4 Y<|Q3 (out0 (c5,t6) ()) [0] ⟨Y,Y,Y,Y,trivial⟩ Y
def J9 (K:Nat) (s1:Symbol) (names2:Int):Option Bool:=if s1.Name=(-1) then (if 0≤s1.Lo then if s1.Lo≤s1.Hi then some (decide (s1.Hi≤255)) else some false else some false).bind fun t4=>some t4 else if 0≤s1.Name then if s1.Name<names2 then if s1.Lo=0 then some (decide (s1.Hi=0)) else some false else some false else some false
theorem ac (K:Nat) (s1:Symbol) (names2:Int):Pure Try.prog 67 [.agg (cSymbol.e s1),Ai .i64 names2] (J9 K s1 names2) (fun r=>Ab r):=by
 refine spec_of' Try.func67 rfl Try.ntmps67 (le_ rfl) ?_
 refine sSR Y<|sQ (P7 (az:=cSymbol.e s1) Y cAgg) Y<|sA Y Y<|j0<|W0<|sSR Y<|sQ (dFA fa51_0 Y) Y<|sQ (dLd g3 Y Y) Y<|sQ (dEq Y Y) Y<|j0<|P3 Y (fun h3=>?_) (fun h3=>?_)
 ·refine W0<|qc (fun (t4:Bool) (_:Unit)=>([(4,Ab t4)]:Fr)) (fun (t4:Bool) (_:Unit)=>([]:List Res)) ?_ ?_
  ·rintro t4 _
   refine M0 [] Try.func67 Try.results67 (rT Y) ⟨Y,Y⟩
  ·intro join4
   refine y4 Y<|sQ (dFA fa51_1 Y) Y<|sQ (dLd g3 Y Y) Y<|sQ (dGe Y Y) Y<|sM Y Y<|M3 (fun h6=>?_) (fun h6=>?_)
   ·refine sG 3 Y Y Y (dT h6) Y (dFA fa51_1 Y) Y<|sG 3 Y Y Y (dT h6) Y (dLd g3 Y Y) Y<|sG 3 Y Y Y (dT h6) Y (dFA fa51_2 Y) Y<|sG 3 Y Y Y (dT h6) Y (dLd g3 Y Y) Y<|sG 3 Y Y Y (dT h6) Y (dLe Y Y) Y<|sQ (G0 Y (dT h6) Y) Y<|sM Y Y<|M3 (fun h7=>?_) (fun h7=>?_)
    ·refine sG 10 Y Y Y (dT h7) Y (dFA fa51_2 Y) Y<|sG 10 Y Y Y (dT h7) Y (dLd g3 Y Y) Y<|sG 10 Y Y Y (dT h7) Y (dLe Y Y) Y<|sQ (G0 Y (dT h7) Y) Y<|sA Y Y<|j0<|Q3 (join4 (decide (s1.Hi≤255)) ()) [] ⟨Y,trivial⟩ Y
    ·refine sU 10 Y Y Y (dF h7) Y Y<|sU 10 Y Y Y (dF h7) Y Y<|sU 10 Y Y Y (dF h7) Y Y<|sQ (P0 Y (dF h7) Y) Y<|sA Y Y<|j0<|Q3 (join4 false ()) [] ⟨Y,trivial⟩ Y
   ·refine sU 3 Y Y Y (dF h6) Y Y<|sU 3 Y Y Y (dF h6) Y Y<|sU 3 Y Y Y (dF h6) Y Y<|sU 3 Y Y Y (dF h6) Y Y<|sU 3 Y Y Y (dF h6) Y Y<|sQ (P0 Y (dF h6) Y) Y<|sM Y Y<|sU 10 Y Y Y Y Y Y<|sU 10 Y Y Y Y Y Y<|sU 10 Y Y Y Y Y Y<|sQ (P0 Y Y Y) Y<|sA Y Y<|j0<|Q3 (join4 false ()) [] ⟨Y,trivial⟩ Y
 ·refine P1<|sSR Y<|sQ (dFA fa51_0 Y) Y<|sQ (dLd g3 Y Y) Y<|sQ (dGe Y Y) Y<|sM Y Y<|M3 (fun h8=>?_) (fun h8=>?_)
  ·refine sG 3 Y Y Y (dT h8) Y (dFA fa51_0 Y) Y<|sG 3 Y Y Y (dT h8) Y (dLd g3 Y Y) Y<|sG 3 Y Y Y (dT h8) Y (dMv Y) Y<|sG 3 Y Y Y (dT h8) Y (dLt Y Y) Y<|sQ (G0 Y (dT h8) Y) Y<|sM Y Y<|M3 (fun h9=>?_) (fun h9=>?_)
   ·refine sG 9 Y Y Y (dT h9) Y (dFA fa51_1 Y) Y<|sG 9 Y Y Y (dT h9) Y (dLd g3 Y Y) Y<|sG 9 Y Y Y (dT h9) Y (dEq Y Y) Y<|sQ (G0 Y (dT h9) Y) Y<|sM Y Y<|M3 (fun h10=>?_) (fun h10=>?_)
    ·refine sG 14 Y Y Y (dT h10) Y (dFA fa51_2 Y) Y<|sG 14 Y Y Y (dT h10) Y (dLd g3 Y Y) Y<|sG 14 Y Y Y (dT h10) Y (dEq Y Y) Y<|sQ (G0 Y (dT h10) Y) Y<|sA Y Y<|j0<|M0 [] Try.func67 Try.results67 (rT Y) ⟨Y,Y⟩
    ·refine sU 14 Y Y Y (dF h10) Y Y<|sU 14 Y Y Y (dF h10) Y Y<|sU 14 Y Y Y (dF h10) Y Y<|sQ (P0 Y (dF h10) Y) Y<|sA Y Y<|j0<|M0 [] Try.func67 Try.results67 (rT Y) ⟨Y,Y⟩
   ·refine sU 9 Y Y Y (dF h9) Y Y<|sU 9 Y Y Y (dF h9) Y Y<|sU 9 Y Y Y (dF h9) Y Y<|sQ (P0 Y (dF h9) Y) Y<|sM Y Y<|sU 14 Y Y Y Y Y Y<|sU 14 Y Y Y Y Y Y<|sU 14 Y Y Y Y Y Y<|sQ (P0 Y Y Y) Y<|sA Y Y<|j0<|M0 [] Try.func67 Try.results67 (rT Y) ⟨Y,Y⟩
  ·refine sU 3 Y Y Y (dF h8) Y Y<|sU 3 Y Y Y (dF h8) Y Y<|sU 3 Y Y Y (dF h8) Y Y<|sU 3 Y Y Y (dF h8) Y Y<|sQ (P0 Y (dF h8) Y) Y<|sM Y Y<|sU 9 Y Y Y Y Y Y<|sU 9 Y Y Y Y Y Y<|sU 9 Y Y Y Y Y Y<|sQ (P0 Y Y Y) Y<|sM Y Y<|sU 14 Y Y Y Y Y Y<|sU 14 Y Y Y Y Y Y<|sU 14 Y Y Y Y Y Y<|sQ (P0 Y Y Y) Y<|sA Y Y<|j0<|M0 [] Try.func67 Try.results67 (rT Y) ⟨Y,Y⟩
def w6.l1 (K:Nat) (r1:Rule) (names2:Int) (t6:Int):Nat→Int→Option (Int ⊕ ((Int×Int) ⊕ (Int×Bool)))
 | 0,_=>none
 | m+1,t11=>if t11<(((rd r1.Conj t6).Seq).length:Int) then if 0≤t11 then (J9 K (⟨(rd ((rd r1.Conj t6).Seq) t11).Name,(rd ((rd r1.Conj t6).Seq) t11).Lo,(rd ((rd r1.Conj t6).Seq) t11).Hi⟩:Symbol) names2).bind fun r15=>if (!r15)=true then some (.inr (.inr (0,false))) else w6.l1 K r1 names2 t6 m (IntKind.wrap .i64 (t11+1)) else none else some (.inl t11)
def w6.l0 (K:Nat) (r1:Rule) (names2:Int):Nat→(Int×Int)→Option ((Int×Int) ⊕ (Int×Bool))
 | 0,_=>none
 | m+1,(n5,t6)=>if t6<(r1.Conj.length:Int) then if 0≤t6 then if 64<(((rd r1.Conj t6).Seq).length:Int) then some (.inr (0,false)) else brk (w6.l1 K r1 names2 t6 K 0) fun t11=>w6.l0 K r1 names2 m (IntKind.wrap .i64 (n5+(((rd r1.Conj t6).Seq).length:Int)),IntKind.wrap .i64 (t6+1)) else none else some (.inl (n5,t6))
def w6 (K:Nat) (r1:Rule) (names2:Int):Option (Int×Bool):=if (r1.Conj.length:Int)<1 then some (0,false) else if 8<(r1.Conj.length:Int) then some (0,false) else brk (w6.l0 K r1 names2 K (0,0)) fun (n5,t6)=>some (n5,true)
theorem wc (K:Nat) (r1:Rule) (names2:Int):Pure Try.prog 50 [.fptr (cRule.e r1),Ai .i64 names2] (w6 K r1 names2) (fun r=>.tup [Ai .i64 r.1,Ab r.2]):=by
 refine spec_of' Try.func50 rfl Try.ntmps50 (le_ rfl) ?_
 refine sSR Y<|sA Y Y<|sA Y Y<|j0<|W0<|sSR Y<|sM Y Y<|sQ (dNc ptF Y) Y<|sQ (dFA fa61_1 Y) Y<|sQ (dLd g59 Y Y) Y<|sQ (L4 Try.underlying59 Y) Y<|sQ (dLt Y Y) Y<|sM Y Y<|M3 (fun h3=>?_) (fun h3=>?_)
 ·refine sU 6 Y Y Y (dT h3) Y Y<|sU 6 Y Y Y (dT h3) Y Y<|sU 6 Y Y Y (dT h3) Y Y<|sU 6 Y Y Y (dT h3) Y Y<|sU 6 Y Y Y (dT h3) Y Y<|sU 6 Y Y Y (dT h3) Y Y<|sQ (G0 Y (dT h3) Y) Y<|j0<|M4 Y Y<|sSR Y<|sA Y Y<|sA Y Y<|j0<|m8 [] Try.func50 Try.results50 (rT Y) (rT Y) ⟨Y,Y⟩
 ·refine sG 6 Y Y Y (dF h3) Y (dMv Y) Y<|sG 6 Y Y Y (dF h3) Y (dNc ptF Y) Y<|sG 6 Y Y Y (dF h3) Y (dFA fa61_1 Y) Y<|sG 6 Y Y Y (dF h3) Y (dLd g59 Y Y) Y<|sG 6 Y Y Y (dF h3) Y (L4 Try.underlying59 Y) Y<|sG 6 Y Y Y (dF h3) Y (dGt Y Y) Y<|sQ (P0 Y (dF h3) Y) Y<|j0<|P3 Y (fun h4=>?_) (fun h4=>?_)
  ·refine sSR Y<|sA Y Y<|sA Y Y<|j0<|m8 [] Try.func50 Try.results50 (rT Y) (rT Y) ⟨Y,Y⟩
  ·refine P1<|sSR Y<|sA Y Y<|j0<|W0<|sSR Y<|sM Y Y<|sQ (dNc ptF Y) Y<|sQ (dFA fa61_1 Y) Y<|sQ (dLd g59 Y Y) Y<|sQ (L4 Try.underlying59 Y) Y<|sM Y Y<|j0<|G8 (w6.l0 K r1 names2) (fun ((n5,t6):(Int×Int)) (_:Unit)=>([(1,Ai .i64 names2),(6,Ai .i64 n5),(28,.fsl cConjunct r1.Conj),(29,Ai .i64 (r1.Conj.length:Int)),(30,Ai .i64 t6)]:Fr)) (fun ((n5,t6):(Int×Int)) (_:Unit)=>([]:List Res)) () (fun _=>Y) [] ⟨Y,Y,Y,Y,Y,trivial⟩ Y ?_ ?_
   ·rintro ⟨n5,t6⟩ _
    refine sSR Y<|sM Y Y<|sA Y Y<|sA Y Y<|j0<|m8 [] Try.func50 Try.results50 (rT Y) (rT Y) ⟨Y,Y⟩
   ·rintro m ⟨n5,t6⟩ _ again0 out0
    refine sSR Y<|sQ (dLt Y Y) Y<|j0<|W0<|P3 Y (fun h7=>?_) (fun h7=>?_)
    ·refine P1<|W0<|J6<|sSR Y<|V5 fun h8=>sQ (dIx Try.underlying59 z58 Y Y h8 h7) Y<|sQ (m7 g58 z58 Y (le_ Y)) Y<|Q6 (az:=[Ab false,.lit (.slice none 0 0)]) al58 (fun _ _=>.cons Y (.cons Y .nil)) Y fun b9=>L7 (j:=0) z58 Y Y Y cAgg ((cConjunct).one _) Y (le_ Y)<|j0<|W0<|sSR Y<|sQ (J3 fa58_1 Y) Y<|sQ (W3 (j:=0) g56 Y Y Y) Y<|sQ (L4 Try.underlying56 Y) Y<|sQ (dGt Y Y) Y<|j0<|P3 Y (fun h10=>?_) (fun h10=>?_)
     ·refine sSR Y<|sA Y Y<|sA Y Y<|j0<|y6<|m8 [0] Try.func50 Try.results50 (rT Y) (rT Y) ⟨Y,Y⟩
     ·refine P1<|W0<|sSR Y<|sQ (J3 fa58_1 Y) Y<|sQ (W3 (j:=0) g56 Y Y Y) Y<|sQ (L4 Try.underlying56 Y) Y<|sM Y Y<|j0<|G8 (w6.l1 K r1 names2 t6) (fun (t11:Int) (_:Unit)=>([(1,Ai .i64 names2),(6,Ai .i64 n5),(8,.lit (.pointer (some ⟨b9,0,none⟩))),(28,.fsl cConjunct r1.Conj),(29,Ai .i64 (r1.Conj.length:Int)),(30,Ai .i64 t6),(39,.fsl cSymbol ((rd r1.Conj t6).Seq)),(40,Ai .i64 (((rd r1.Conj t6).Seq).length:Int)),(41,Ai .i64 t11)]:Fr)) (fun (t11:Int) (_:Unit)=>([.box b9 [Ab ((rd r1.Conj t6).Neg),.fsl cSymbol ((rd r1.Conj t6).Seq)]]:List Res)) () (fun _=>Y) [] ⟨Y,Y,Y,Y,Y,Y,Y,Y,Y,trivial⟩ Y ?_ ?_
      ·rintro t11 _
       refine y4 Y<|sM Y Y<|sQ (J3 fa58_1 Y) Y<|sQ (W3 (j:=0) g56 Y Y Y) Y<|sQ (L4 Try.underlying56 Y) Y<|sQ (L5 Y Y) Y<|sA Y Y<|j0<|Q2<|y4 Y<|sQ (L5 Y Y) Y<|sM Y Y<|j0<|Q3 (again0 (IntKind.wrap .i64 (n5+(((rd r1.Conj t6).Seq).length:Int)),IntKind.wrap .i64 (t6+1)) ()) [] ⟨Y,Y,Y,Y,Y,trivial⟩ Y
      ·rintro m t11 _ again1 out1
       refine sSR Y<|sQ (dLt Y Y) Y<|j0<|W0<|P3 Y (fun h12=>?_) (fun h12=>?_)
       ·refine P1<|W0<|J6<|sSR Y<|V5 fun h13=>sQ (dIx Try.underlying56 z51 Y Y h13 h12) Y<|sQ (m7 g51 z51 Y (le_ Y)) Y<|Q6 (az:=[Ai .i64 (0:Int),Ai .i64 (0:Int),Ai .i64 (0:Int)]) al51 (fun _ _=>.cons Y (.cons Y (.cons Y .nil))) Y fun b14=>L7 (j:=0) z51 Y Y Y cAgg ((cSymbol).one _) Y (le_ Y)<|sES Y<|sQ (W6 (j:=0) g51 z51 Y Y (le_ Y)) Y<|sM Y Y<|j4 fun r15 e16=>sQ (J4 ent67 (ac K _ _) e16 (.s Y<|.s Y .nil)) Y<|sQ (z8 Y) Y<|j0<|k6 Y (fun h17=>?_) (fun h17=>?_)
        ·refine sSR Y<|sA Y Y<|sA Y Y<|j0<|y6<|y6<|m8 [1,0] Try.func50 Try.results50 (rT Y) (rT Y) ⟨Y,Y⟩
        ·refine P1<|Q2<|y4 Y<|sQ (L5 Y Y) Y<|sM Y Y<|j0<|Q3 (again1 (IntKind.wrap .i64 (t11+1)) ()) [1] ⟨Y,Y,Y,Y,Y,Y,Y,Y,Y,trivial⟩ Y
       ·refine W4 Y<|Q3 (out1 t11 ()) [0] ⟨Y,Y,Y,Y,Y,Y,Y,Y,Y,trivial⟩ Y
    ·refine W4 Y<|Q3 (out0 (n5,t6) ()) [] ⟨Y,Y,Y,Y,Y,trivial⟩ Y
end Go.Proofs.Ytgmnohjaciemmaa

