import Derived.Laws.StructEq
import Derived.Test.YtgmnohjaciemmaaRows
import Derived.WalkKit
import Derived.ProofKit
import Derived.OpenShut
import Derived.ShutString
import Derived.ChangeOld
import Derived.Below
import Derived.SizedLaws
import Derived.ReadAgain
import Derived.Deep.Slices
import Derived.JoinedCond
import Derived.Deep.CondSized
import Derived.Laws.ComplexArith
import Derived.Test.YtgmnohjaciemmaaW0
namespace Go.Proofs.Ytgmnohjaciemmaa
namespace S
open Go.RowKit
set_option linter.unusedVariables false
set_option linter.unusedSimpArgs false
def Ent (P:Program) (g:FuncId):Prop:=∀ args w,(callFunc g args).run P w = .ok (.enter g args) w
def Flat (a:AV):Prop:=∀ Z w Z' w' v,a.p Z w v→a.p Z' w' v
theorem flLit {v:Value}:Flat (.lit v):=fun _ _ _ _ _ h=>h
def FlatL:List AV→Prop
 | []=>True
 | a::aS=>Flat a∧FlatL aS
theorem flL {aS:List AV} (h:FlatL aS) {Z w Z' w'} {vs:List Value} (hv:AllP Z w aS vs):AllP Z' w' aS vs:=by
 induction hv with
 | nil=>exact .nil
 | cons h1 _ ih=>exact .cons (h.1 _ _ _ _ _ h1) (ih h.2)
theorem flTup {aS:List AV} (h:FlatL aS):Flat (.tup aS):=fun Z w Z' w' _ ⟨vs,e,h1⟩=>⟨vs,e,flL h h1⟩
section
variable {P:Program} {f:FuncId} {n:Nat} {ops:Array Oper} {l:List Oper} {k:List Item} {fr:Fr} {H:List Res} {ρ R:Type} {x:Option ρ} {X:ρ→Option R} {K:R→AV→List Res→Prop} {ty t t' e:TypeId} {d:Nat} {pos:String} {aft:Array Edge}
inductive Args (fr:Fr) (H:List Res):List Operand→List AV→Prop
 | nil:Args fr H [] []
 | s {x:Operand} {a:AV} {xs:List Operand} {aS:List AV}:arg fr x=some a→Args fr H xs aS→Args fr H (x::xs) (a::aS)
 | o {T:Type} {x:Operand} {t:TypeId} {c:Co T} {v:Value} {ys:List T} {xs:List Operand} {aS:List AV} (j:Nat):arg fr x=some (.sv v)→H[j]?=some (.own t c v ys)→Args fr H xs aS→Args fr H (x::xs) (.fsl c ys::aS)
 | z {T:Type} {x:Operand} {c:Co T} {v:Value} {ys:List T} {xs:List Operand} {aS:List AV} (j:Nat):arg fr x=some (.sv v)→H[j]?=some (.fz c v ys)→Args fr H xs aS→Args fr H (x::xs) (.fsl c ys::aS)
 | b {x:Operand} {b:Nat} {cs:List AV} {xs:List Operand} {aS:List AV} (j:Nat):arg fr x=some (.lit (.pointer (some ⟨b,0,none⟩)))→H[j]?=some (.box b cs)→Args fr H xs aS→Args fr H (x::xs) (.fptr cs::aS)
 | n {T:Type} {x:Operand} (c:Co T) {xs:List Operand} {aS:List AV}:arg fr x=some (.lit (.slice none 0 0))→Args fr H xs aS→Args fr H (x::xs) (.fsl c []::aS)
 | g {x:Operand} {a0 a:AV} {xs:List Operand} {aS:List AV}:arg fr x=some a0→(∀ {Z F:Nat→Prop} {w:World} {u:Value},HAll H Z w F→a0.p Z w u→a.p (fun b=>Z b∨F b) w u)→Args fr H xs aS→Args fr H (x::xs) (a::aS)
theorem nil_fsl {T:Type} (c:Co T) (Z:Nat→Prop) (w:World):(AV.fsl c ([]:List T)).p Z w (.slice none 0 0):=⟨none,0,rfl,by simp,by intro i x hx;simp at hx⟩
theorem args_ok {xs:List Operand} {aS:List AV} (h:Args fr H xs aS) {Z F:Nat→Prop} {w:World} {ρ:Operand→Value} (hH:HAll H Z w F) (hf:∀ {x:Operand} {a:AV},x ∈ xs→arg fr x=some a→a.p Z w (ρ x)):AllP (fun b=>Z b∨F b) w aS (xs.map ρ):=by
 have hzz:∀ b,Z b→Z b∨F b:=fun _ x=>.inl x
 induction h with
 | nil=>exact .nil
 | s hx _ ih=>exact .cons (AV.st _ hzz (Keep.refl _ _) (hf (by simp) hx)) (ih fun hm hx=>hf (by simp [hm]) hx)
 | o j hx hj _ ih =>
  refine .cons ?_ (ih fun hm hx=>hf (by simp [hm]) hx)
  obtain ⟨e1,_⟩:=hf (by simp) hx
  obtain ⟨F1,h1,hF⟩:=hH.at hj
  rw [e1]
  exact AV.st _ (fun b hb=>hb.imp id (hF b)) (Keep.refl _ _) (own_fsl h1)
 | z j hx hj _ ih =>
  refine .cons ?_ (ih fun hm hx=>hf (by simp [hm]) hx)
  obtain ⟨e1,_⟩:=hf (by simp) hx
  obtain ⟨F1,h1,hF⟩:=hH.at hj
  rw [e1]
  exact AV.st _ hzz (Keep.refl _ _) h1
 | b j hx hj _ ih =>
  refine .cons ?_ (ih fun hm hx=>hf (by simp [hm]) hx)
  have e1:ρ _=_:=hf (by simp) hx
  obtain ⟨F1,⟨hb,vs,t',h1,h2⟩,hF⟩:=hH.at hj
  rw [e1]
  exact ⟨_,rfl,.inr (hF _ hb),vs,h2.st hzz (Keep.refl _ _),fun i u hu=>by rw [Addr.add_lit,cell_of_row _ _ _ _ _ _ h1];simpa using hu⟩
 | n c hx _ ih =>
  refine .cons ?_ (ih fun hm hx=>hf (by simp [hm]) hx)
  have e1:ρ _=_:=hf (by simp) hx
  rw [e1];exact nil_fsl c _ _
 | g hx hg _ ih=>exact .cons (hg hH (hf (by simp) hx)) (ih fun hm hx=>hf (by simp [hm]) hx)
theorem call_run {o:Oper} {g:FuncId} {args:Array Operand} {ts:Array TypeId} {w:World} {ρ:Operand→Value} (hρ:∀ f,ρ (.func f) = .func (.func f) #[] #[]) (ho:o.op = .call ⟨.value (.func g),args,ts⟩) (hg:Ent P g):(execOp ρ o).run P w = .ok (.enter g (args.toList.map ρ).toArray) w:=by
 have:=hg (args.map ρ) w
 simp only [execOp,ho,resolve,hρ,Deferred.ofValue,invoke,Sem.run_bind,Sem.run_pure,Result.andThen_ok,Array.append_empty,this,Array.empty_append]
 congr 2
 apply Array.ext'
 simp
inductive ArgsS (fr:Fr):List Operand→List AV→Prop
 | nil:ArgsS fr [] []
 | s {x:Operand} {a:AV} {xs:List Operand} {aS:List AV}:arg fr x=some a→ArgsS fr xs aS→ArgsS fr (x::xs) (a::aS)
 | n {T:Type} {x:Operand} (c:Co T) {xs:List Operand} {aS:List AV}:arg fr x=some (.lit (.slice none 0 0))→ArgsS fr xs aS→ArgsS fr (x::xs) (.fsl c []::aS)
theorem argsS_ok {xs:List Operand} {aS:List AV} (h:ArgsS fr xs aS) {Z:Nat→Prop} {w:World} {ρ:Operand→Value} (hf:∀ {x:Operand} {a:AV},x ∈ xs→arg fr x=some a→a.p Z w (ρ x)):AllP Z w aS (xs.map ρ):=by
 induction h with
 | nil=>exact .nil
 | s hx _ ih=>exact .cons (hf (by simp) hx) (ih fun hm hx=>hf (by simp [hm]) hx)
 | n c hx _ ih =>
  refine .cons ?_ (ih fun hm hx=>hf (by simp [hm]) hx)
  have e1:ρ _=_:=hf (by simp) hx
  rw [e1];exact nil_fsl c _ _
theorem inv_enter {w0 w:World} {F0 Z0 F Z:Nat→Prop} (h:Inv w0 w F0 Z0 F Z H):Inv w w (fun _=>False) Z (fun _=>False) Z [] :=
 ⟨Base.refl _ _,fun _ x=>x,fun b hb=>⟨(h.zin b hb).1,.inl hb⟩,fun _ x=>x.elim,trivial⟩
theorem j5 {g:FuncId} {args:Array Operand} {ts:Array TypeId} {avs:List AV} {Q:Type} {y:Option Q} {en:Q→AV} {r:Q} (hg:Ent P g) (hp:Pure P g avs y en) (hy:y=some r) (ha:ArgsS fr args.toList avs):D P n H (.call ⟨.value (.func g),args,ts⟩) ty fr (en r):=by
 intro o ho hty w0 F0 Z0 w F Z tmps hn hi hf
 have hargs:=argsS_ok (ρ:=(⟨tmps,[]⟩:Act).eval) ha fun {x a} hm hx=>arg_ok hf hx (by simp [Op.operands,Call.operands];exact .inr (by simpa using hm))
 refine .inr ⟨g,_,w,_,call_run (fun _=>rfl) ho hg,hp r hy w (fun _=>False) Z _ hargs (inv_enter hi),?_⟩
 rintro e w'' ⟨v,rfl,F',Z',av,H',⟨rfl,rfl⟩,hinv,hv⟩
 refine ⟨v,rfl,Z',hinv.z0,fun b hb=>?_,⟨hinv.base.os,hinv.base.tape,hinv.base.output,hinv.base.drawn,hinv.base.size,fun b hb _=>hinv.base.keep b hb id⟩,hv⟩
 have:=hinv.zin b hb
 exact this.2.elim .inl fun y=>y.elim (fun z=>z.elim) fun z=>.inr ⟨z,this.1⟩
theorem cb {g:FuncId} {args:Array Operand} {ts:Array TypeId} {avs:List AV} {Q:Type} {y:Option Q} {en:Q→AV} {r:Q} (hg:Ent P g) (hp:Pure P g avs y en) (hy:y=some r) (hfl:Flat (en r)) (ha:Args fr H args.toList avs):D P n H (.call ⟨.value (.func g),args,ts⟩) ty fr (en r):=by
 intro o ho hty w0 F0 Z0 w F Z tmps hn hi hf
 have hargs:=args_ok (ρ:=(⟨tmps,[]⟩:Act).eval) ha hi.res fun {x a} hm hx=>arg_ok hf hx (by simp [Op.operands,Call.operands];exact .inr (by simpa using hm))
 refine .inr ⟨g,_,w,_,call_run (fun _=>rfl) ho hg,hp r hy w (fun _=>False) (fun b=>Z b∨F b) _ hargs ⟨Base.refl _ _,fun _ x=>x,fun b hb=>⟨hb.elim (fun x=>(hi.zin b x).1) (fun x=>(hi.fin b x).1),.inl hb⟩,fun _ x=>x.elim,trivial⟩,?_⟩
 rintro e w'' ⟨v,rfl,F',Z',av,H',⟨rfl,rfl⟩,hinv,hv⟩
 exact ⟨v,rfl,Z,fun _ x=>x,fun _ x=>.inl x,⟨hinv.base.os,hinv.base.tape,hinv.base.output,hinv.base.drawn,hinv.base.size,fun b hb _=>hinv.base.keep b hb id⟩,hfl _ _ _ _ _ hv⟩
theorem HAll.append {H':List Res} {Z F F':Nat→Prop} {w:World} (h:HAll H Z w F) (h':HAll H' Z w F') (hd:∀ b,F b→¬ F' b):HAll (H++H') Z w (fun b=>F b∨F' b):=by
 induction H generalizing F with
 | nil=>exact h'.wide fun _ x=>.inr x
 | cons r rs ih =>
  obtain ⟨F1,F2,h1,h2,d1,d2⟩:=h
  refine ⟨F1,fun b=>F2 b∨F' b,h1,ih h2 (fun b hb=>hd b (d2 b hb)),fun b hb=>⟨.inl (d1 b hb).1,fun y=>y.elim (d1 b hb).2 (hd b (d1 b hb).1)⟩,fun b hb=>hb.imp (d2 b) id⟩
def Fresh (P:Program) (g:FuncId) (avs:List AV) {Q:Type} (y:Option Q) (A:Q→List Value→AV) (B:Q→List Value→List Res):Prop:=∀ r,y=some r→Spec P g avs [] fun a H=>∃ vs,a=A r vs∧H=B r vs
theorem Jc {g:FuncId} {args:Array Operand} {ts:Array TypeId} {avs:List AV} {Q:Type} {y:Option Q} {A:Q→List Value→AV} {B:Q→List Value→List Res} {r:Q} (hg:Ent P g) (hp:Fresh P g avs y A B) (hy:y=some r) (ha:ArgsS fr args.toList avs) (hdn:Nat.blt d n=true)
  (h:∀ vs,SimL P f n ops l k ((d,A r vs)::fr) (B r vs++H) x X K):SimL P f n ops (⟨some d,.call ⟨.value (.func g),args,ts⟩,ty,pos,aft,none⟩::l) k fr H x X K:=by
 intro is hs r' hr w0 F0 Z0 w F Z tmps hn hi hf
 cases is with
 | nil=>simp at hs
 | cons i is =>
  simp only [List.map_cons,List.cons.injEq] at hs
  have hdn':d<n:=by simpa [Nat.blt_eq] using hdn
  have hargs:=argsS_ok (ρ:=(⟨tmps,[]⟩:Act).eval) ha fun {x a} hm hx=>by
   cases x with
   | tmp t=>exact hf t a hx
   | const v=>simp [arg] at hx;subst hx;rfl
   | func g=>simp [arg] at hx;subst hx;rfl
   | global g=>simp [arg] at hx;subst hx;rfl
  refine .enter hs.1 (wanted_none rfl) (call_run (fun _=>rfl) rfl hg) (hp r hy w (fun _=>False) Z _ hargs (inv_enter hi)) ?_
  rintro e w'' ⟨v,rfl,F',Z',av,H',⟨vs,rfl,rfl⟩,hinv,hv⟩
  refine ⟨v,rfl,?_⟩
  have s:Step w w'' (fun _=>False):=⟨hinv.base.os,hinv.base.tape,hinv.base.output,hinv.base.drawn,hinv.base.size,fun b hb _=>hinv.base.keep b hb id⟩
  have hk:=s.keep' hi
  refine h vs is hs.2 r' hr w0 F0 Z0 w'' (fun b=>F' b∨F b) Z' _ (by simpa [putT] using hn) ?_ ((hf.st hinv.z0 hk).put (by omega) hv)
  refine hi.step s (fun _ x=>x.elim) hinv.z0 (fun b hb=>?_) (fun b hb=>?_) (hinv.res.append (hi.res.st hinv.z0 fun b hb=>s.keep b (hb.elim (fun x=>(hi.zin b x).1) (fun x=>(hi.fin b x).1)) id) fun b hb hF=>?_)
  ·have:=hinv.zin b hb
   exact this.2.elim .inl fun y=>y.elim (fun z=>z.elim) fun z=>.inr (.inr ⟨z,this.1⟩)
  ·rcases hb with hb | hb
   ·have:=hinv.fin b hb
    exact ⟨this.2.1.elim (fun z=>z.elim) fun z=>.inr ⟨z,this.1⟩,this.2.2⟩
   ·refine ⟨.inl hb,fun hz=>?_⟩
    have:=hinv.zin b hz
    rcases this.2 with y | y | y
    ·exact (hi.fin b hb).2.2 y
    ·exact y
    ·have:=(hi.fin b hb).1;omega
  ·have:=hinv.fin b hb
   rcases this.2.1 with y | y
   ·exact y
   ·have:=(hi.fin b hF).1;omega
theorem Pure.of {g:FuncId} {avs:List AV} {Q:Type} {y:Option Q} {en:Q→AV} (h:∀ r,y=some r→Spec P g avs [] fun a H=>a=en r∧H=[]):Pure P g avs y en:=h
def rvRun (rv:ResultVar) (tmps:Array Value):Sem Value:=match rv with
 | .tmp t=>pure (tmps.getD t undef)
 | .cell a t=>do loadVar t (← asAddr (tmps.getD a undef))
theorem results1 {fn:Func} {r1:ResultVar} (h:fn.results=#[r1]) {tmps:Array Value} {w:World} {v1:Value} (h1:(rvRun r1 tmps).run P w = .ok v1 w):(results fn tmps).run P w = .ok v1 w:=by
 have:results fn tmps=(do let vs ← (#[r1]:Array ResultVar).mapM (fun rv=>rvRun rv tmps);pure (if h:vs.size=1 then vs[0] else .tuple vs)):=by rw [← h];rfl
 rw [this];simp [h1,Sem.run_bind,go_sem]
theorem results2 {fn:Func} {r1 r2:ResultVar} (h:fn.results=#[r1,r2]) {tmps:Array Value} {w:World} {v1 v2:Value} (h1:(rvRun r1 tmps).run P w = .ok v1 w) (h2:(rvRun r2 tmps).run P w = .ok v2 w):(results fn tmps).run P w = .ok (.tuple #[v1,v2]) w:=by
 have:results fn tmps=(do let vs ← (#[r1,r2]:Array ResultVar).mapM (fun rv=>rvRun rv tmps);pure (if h:vs.size=1 then vs[0] else .tuple vs)):=by rw [← h];rfl
 rw [this];simp [h1,h2,Sem.run_bind,go_sem]
theorem results0 {fn:Func} (h:fn.results=#[]) {tmps:Array Value} {w:World}:(results fn tmps).run P w = .ok (.tuple #[]) w:=by
 simp [results,h,go_sem]
def RetA (P:Program) (fr:Fr) (H:List Res) (rv:ResultVar) (a:AV):Prop:=∀ (Z F:Nat→Prop) (w:World) (tmps:Array Value),HAll H Z w F→FrOk fr Z w tmps→∃ v,(rvRun rv tmps).run P w = .ok v w∧a.p Z w v
theorem rT {u:Nat} {a:AV} (hu:look fr u=some a):RetA P fr H (.tmp u) a:=fun Z F w tmps _ hf=>⟨_,rfl,hf u a hu⟩
theorem rC {u b j m:Nat} {aS:List AV} (hg:IsAgg P t true) (hs:SizeIs P t m) (hu:look fr u=some (.lit (.pointer (some ⟨b,0,none⟩)))) (hj:H[j]?=some (.box b aS)) (hm:aS.length=m):RetA P fr H (.cell u t) (.agg aS):=fun Z F w tmps hH hf=>by
 obtain ⟨F1,⟨hb,vs,t',h1,h2⟩,_⟩:=hH.at hj
 have e1:tmps.getD u undef=_:=hf u _ hu
 have hl:=h2.length
 have:=load_agg (P:=P) (t:=t) (a:=⟨b,0,none⟩) (vs:=vs) (w:=w) hg hs (by omega) (fun i u hu=>by rw [Addr.add_lit,cell_of_row _ _ _ _ _ _ h1];simpa using hu)
 refine ⟨.agg vs.toArray,?_,vs,rfl,h2⟩
 simp only [Instr.loadAt,Instr.sureAddr,Sem.run_bind,Sem.run_pure,Result.andThen_ok] at this
 simp only [rvRun,e1,asAddr,Sem.run_bind,Sem.run_pure,Result.andThen_ok,this]
theorem Q1 (js:List Nat) {fn:Func} {r1:ResultVar} {a:AV} {q:R} (hf:P.funcs[f]?=some fn) (hr:fn.results=#[r1]) (h1:RetA P fr H r1 a) (hK:K q a (S.dropAll H js)):Sim P f n (.code .ret::k) fr H (some q) some K:=by
 intro r hq w0 F0 Z0 w F Z tmps hn hi hfr
 cases hq
 obtain ⟨v1,e1,p1⟩:=h1 Z F w tmps hi.res hfr
 exact .ret hf (results1 hr e1) ⟨F,Z,a,_,hK,hi.less (·.dropAll js),p1⟩
theorem c8 (js:List Nat) {fn:Func} {r1 r2:ResultVar} {a b:AV} {q:R} (hf:P.funcs[f]?=some fn) (hr:fn.results=#[r1,r2]) (h1:RetA P fr H r1 a) (h2:RetA P fr H r2 b) (hK:K q (.tup [a,b]) (S.dropAll H js)):Sim P f n (.code .ret::k) fr H (some q) some K:=by
 intro r hq w0 F0 Z0 w F Z tmps hn hi hfr
 cases hq
 obtain ⟨v1,e1,p1⟩:=h1 Z F w tmps hi.res hfr
 obtain ⟨v2,e2,p2⟩:=h2 Z F w tmps hi.res hfr
 exact .ret hf (results2 hr e1 e2) ⟨F,Z,_,_,hK,hi.less (·.dropAll js),[v1,v2],rfl,.cons p1 (.cons p2 .nil)⟩
theorem bc {fn:Func} {q:R} (hf:P.funcs[f]?=some fn) (hr:fn.results=#[]) (hK:K q .any H):Sim P f n [] fr H (some q) some K:=by
 intro r hq w0 F0 Z0 w F Z tmps hn hi hfr
 cases hq
 exact .fin hf (results0 hr) ⟨F,Z,_,H,hK,hi,trivial⟩
inductive Parts (fr:Fr) (pl:Nat→Option (Nat×Nat)):List AV→List (Nat×Operand)→List AV→Prop
 | nil {aS:List AV}:Parts fr pl aS [] aS
 | c {aS bs cs:List AV} {i off sz:Nat} {x:Operand} {a:AV} {ps:List (Nat×Operand)}:pl i=some (off,sz)→arg fr x=some a→CellsOf a bs→bs.length=sz→Nat.ble (off+sz) aS.length=true→Parts fr pl (splice aS off bs) ps cs→Parts fr pl aS ((i,x)::ps) cs
theorem foldl_splice (vs us:List Value) (o:Nat) (h:o+us.length≤vs.length):(us.toArray.zipIdx.foldl (fun (cs:Array Value) (x:Value×Nat)=>cs.setIfInBounds (o+x.2) x.1) vs.toArray)=(vs.take o++us++vs.drop (o+us.length)).toArray:=by
 have key:∀ (us:List Value) (i:Nat) (vs:List Value),o+i+us.length≤vs.length→(us.zipIdx i).foldl (fun (cs:Array Value) (x:Value×Nat)=>cs.setIfInBounds (o+x.2) x.1) vs.toArray=(vs.take (o+i)++us++vs.drop (o+i+us.length)).toArray:=by
  intro us
  induction us with
  | nil=>intro i vs h;simp
  | cons u us ih =>
   intro i vs h
   simp only [List.zipIdx_cons,List.foldl_cons,List.setIfInBounds_toArray]
   rw [ih (i+1) (vs.set (o+i) u) (by simp at h ⊢;omega)]
   congr 1
   apply List.ext_getElem?
   intro q
   simp only [List.length_cons] at h ⊢
   simp only [List.getElem?_append,List.getElem?_take,List.getElem?_drop,List.length_append,List.length_take,List.length_set,List.getElem?_set]
   have e1:min (o+(i+1)) vs.length=o+i+1:=by omega
   have e2:min (o+i) vs.length=o+i:=by omega
   simp only [e1,e2]
   by_cases h1:q<o+i
   ·have a1:q<o+i+1+us.length:=by omega
    have a2:q<o+i+1:=by omega
    have a3:q<o+i+(us.length+1):=by omega
    have a4:q<o+(i+1):=by omega
    have a5:¬ o+i=q:=by omega
    simp [*]
   ·by_cases h2:q=o+i
    ·subst h2
     have a1:o+i<o+i+1+us.length:=by omega
     have a2:o+i<o+(i+1):=by omega
     have a3:o+i<vs.length:=by omega
     simp [*]
    ·by_cases h3:q<o+i+1+us.length
     ·have a1:¬ q<o+i+1:=by omega
      have a2:q<o+i+(us.length+1):=by omega
      have a3:q-(o+i)=(q-(o+i+1))+1:=by omega
      simp only [List.length_cons,h3,a1,a2,if_true,if_false,h1,a3,List.getElem?_cons_succ]
     ·have a2:¬ q<o+i+(us.length+1):=by omega
      have a3:¬ o+i=o+(i+1)+us.length+(q-(o+i+1+us.length)):=by omega
      have a4:o+(i+1)+us.length+(q-(o+i+1+us.length))=o+i+(us.length+1)+(q-(o+i+(us.length+1))):=by omega
      have a5:¬ o+i=o+i+(us.length+1)+(q-(o+i+(us.length+1))):=by omega
      simp [h3,a2,a4,a5]
 have:=key us 0 vs (by omega)
 rw [← Array.foldl_toList]
 simpa using this
theorem fill_parts {pl:Nat→Option (Nat×Nat)} {aS cs:List AV} {ps:List (Nat×Operand)} (h:Parts fr pl aS ps cs) {Z:Nat→Prop} {w:World} {ρ:Operand→Value} (hf:∀ {x:Operand} {a:AV},x ∈ ps.map (·.2)→arg fr x=some a→a.p Z w (ρ x)) :
  ∀ vs,AllP Z w aS vs→∃ us,Instr.fill pl vs.toArray (ps.map fun p=>(p.1,ρ p.2))=some us.toArray∧AllP Z w cs us:=by
 induction h with
 | nil=>exact fun vs hv=>⟨vs,rfl,hv⟩
 | @c aS bs cs i off sz x a ps hpl hx hc hl hle _ ih =>
  intro vs hv
  have hcs:=hc _ _ _ (hf (by simp) hx)
  have l1:=hcs.length
  have l2:=hv.length
  have hle':off+sz≤aS.length:=by simpa [Nat.ble_eq] using hle
  have hsz:(ρ x).cells.size=sz:=by rw [← hl,l1];simp
  obtain ⟨us,h1,h2⟩:=ih (fun hm hx=>hf (by simp at hm ⊢;exact .inr hm) hx) _ (hv.splice hcs off)
  refine ⟨us,?_,h2⟩
  have hfd:=foldl_splice vs (ρ x).cells.toList off (by simp;omega)
  simp only [Array.toArray_toList] at hfd
  have hge:¬ (off+sz > vs.length):=by omega
  simp only [List.map_cons,Instr.fill,hpl,hsz,ne_eq,not_true_eq_false,List.size_toArray,hge,or_self,if_false]
  exact (congrArg (fun z=>Instr.fill pl z _) hfd).trans h1
theorem m6 {zs:List Value} {az cs:List AV} {ps:Array (Nat×Operand)} {fs:Array Field} {pls:Array (Nat×Nat)} (ht:P.underlying t=some (.struct fs)) (hz:∀ w,(zeroValue t).run P w = .ok (.agg zs.toArray) w) (hm:∀ w,(fs.mapM (m:=Sem) fun f=>do pure (f.offset,← sizeOf f.type)).run P w = .ok pls w)
  (ha:∀ Z w,AllP Z w az zs) (hp:Parts fr (fun i=>pls[i]?) az ps.toList cs):D P n H (.build t ps) ty fr (.agg cs) :=
 .of fun o ho hty w Z F ρ _ hf=>by
  obtain ⟨us,h1,h2⟩:=fill_parts hp (ρ:=ρ) (Z:=Z) (w:=w) (fun {x a} hmem hx=>hf (by simp [Op.operands];simpa using hmem) hx) zs (ha Z w)
  refine ⟨.agg us.toArray,?_,us,rfl,h2⟩
  have hps:(ps.map fun p=>(p.1,ρ p.2)).toList=ps.toList.map fun p=>(p.1,ρ p.2):=by simp
  have h1':Instr.fill (fun i=>pls[i]?) zs.toArray (ps.map fun p=>(p.1,ρ p.2)).toList=some us.toArray:=by rw [hps];exact h1
  simp only [execOp,ho,Instr.build,Sem.run_bind,hz w,Result.andThen_ok,Sem.run_pure,run_underlying ht,hm w,Value.cells]
  have h1'':Instr.fill (fun x=>pls[x]?) zs.toArray (Array.map (fun x=>match x with | (i,x)=>(i,ρ x)) ps).toList=some us.toArray:=h1'
  simp only [h1'',Sem.run_pure,Result.andThen_ok]
end
end S
namespace S
open Go.RowKit
set_option linter.unusedVariables false
set_option linter.unusedSimpArgs false
def edgesOn (o:Oper):List Nat:=(o.after.toList.filter (Region.binds .any)).map (·.on)
inductive Lin (ops:Array Oper):List Nat→List Nat→Prop
 | nil {S:List Nat}:(∀ i,i<ops.size→i ∈ S)→Lin ops S []
 | cons {S is:List Nat} {i:Nat} {o:Oper}:ops[i]?=some o→i ∉ S→(∀ e ∈ edgesOn o,e ∈ S)→Lin ops (i::S) is→Lin ops S (i::is)
def backOk (ops:Array Oper):Bool:=(List.range ops.size).all fun i=>match ops[i]? with
 | some o=>(edgesOn o).all fun e=>Nat.blt e i
 | none=>true
theorem all_lt (p:Nat→Bool) (n:Nat):(List.range n).all p=true↔∀ i,i<n→p i=true:=by simp [List.all_eq_true]
def cnt (L:Array Bool):Nat:=(L.toList.filter (! ·)).length
theorem cnt_set (L:Array Bool) (i:Nat) (hi:L[i]?=some false):cnt (L.setIfInBounds i true)+1=cnt L:=by
 unfold cnt
 rw [Array.toList_setIfInBounds]
 have hi':L.toList[i]?=some false:=by simpa using hi
 generalize L.toList=M at hi'
 clear hi
 induction M generalizing i with
 | nil=>simp at hi'
 | cons b M ih =>
  cases i with
  | zero=>simp at hi';subst hi';simp
  | succ i =>
   simp only [List.set_cons_succ,List.filter_cons]
   have:=ih i (by simpa using hi')
   cases b <;> simp at this ⊢ <;> omega
theorem lin_go (ops:Array Oper) (hb:backOk ops=true):∀ (fuel t:Nat) (L:Array Bool) (acc S:List Nat),L.size=ops.size→cnt L≤fuel→(∀ i,i ∈ S↔L[i]?=some true)→∃ is,Region.linearise.go .any ops fuel t L acc=acc.reverse++is∧Lin ops S is:=by
 intro fuel
 induction fuel with
 | zero =>
  intro t L acc S hL hc hS
  refine ⟨[],by simp [Region.linearise.go],.nil fun i hi=>?_⟩
  rw [hS]
  cases hLi:L[i]? with
  | none=>rw [Array.getElem?_eq_none_iff] at hLi;omega
  | some b =>
   cases b with
   | true=>rfl
   | false=>have:=cnt_set L i hLi;omega
 | succ fuel ih =>
  intro t L acc S hL hc hS
  simp only [Region.linearise.go]
  generalize hrs:(List.filter (fun i=>!L.getD i true && ((ops[i]?).map (·.after.all fun e=>!Region.binds .any e || L.getD e.on false)).getD false) (List.range ops.size))=rs
  have hmem:∀ i,i ∈ rs↔∃ o,ops[i]?=some o∧L[i]?=some false∧∀ e ∈ edgesOn o,e ∈ S:=by
   intro i
   rw [← hrs,List.mem_filter,List.mem_range]
   constructor
   ·rintro ⟨hi,h⟩
    have hLi:i<L.size:=by omega
    rw [Bool.and_eq_true] at h
    obtain ⟨h1,h2⟩:=h
    have ho:ops[i]?=some ops[i]:=by simp [hi]
    rw [ho] at h2
    refine ⟨_,ho,?_,fun e he=>?_⟩
    ·rw [Array.getD_eq_getD_getElem?] at h1
     rw [Array.getElem?_eq_getElem hLi] at h1 ⊢
     simpa using h1
    ·simp only [Option.map_some,Option.getD_some,Array.all_eq_true_iff_forall_mem] at h2
     simp only [edgesOn,List.mem_map,List.mem_filter] at he
     obtain ⟨ed,⟨hed,hbd⟩,rfl⟩:=he
     have:=h2 ed (by simpa using hed)
     rw [hbd] at this
     simp at this
     rw [hS]
     cases hx:L[ed.on]? with
     | none=>simp [hx] at this
     | some b=>simp [hx] at this;rw [this]
   ·rintro ⟨o,ho,h1,h2⟩
    have hi:i<ops.size:=by
     rcases Nat.lt_or_ge i ops.size with h | h
     ·exact h
     ·simp [h] at ho
    refine ⟨hi,?_⟩
    rw [Bool.and_eq_true]
    refine ⟨by simp [Array.getD_eq_getD_getElem?,h1],?_⟩
    rw [ho]
    simp only [Option.map_some,Option.getD_some,Array.all_eq_true_iff_forall_mem]
    intro ed hed
    by_cases hbd:Region.binds .any ed=true
    ·have:=h2 ed.on (by simp only [edgesOn,List.mem_map,List.mem_filter];exact ⟨ed,⟨by simpa using hed,hbd⟩,rfl⟩)
     rw [hS] at this
     simp [this]
    ·simp at hbd;simp [hbd]
  cases hsel:rs[t % rs.length]? with
  | none =>
   refine ⟨[],by simp,.nil ?_⟩
   have hnil:rs=[]:=by
    rcases Nat.eq_zero_or_pos rs.length with h | h
    ·exact List.length_eq_zero_iff.1 h
    ·have:=Nat.mod_lt t h
     rw [List.getElem?_eq_none_iff] at hsel;omega
   intro i
   induction i using Nat.strongRecOn with
   | _ i ihi =>
    intro hi
    rw [hS]
    have hLi:i<L.size:=by omega
    cases hb':L[i] with
    | true=>rw [Array.getElem?_eq_getElem hLi,hb']
    | false =>
     exfalso
     have ho:ops[i]?=some ops[i]:=by simp [hi]
     have:i ∈ rs:=(hmem i).2 ⟨_,ho,by rw [Array.getElem?_eq_getElem hLi,hb'],fun e he=>?_⟩
     ·rw [hnil] at this;cases this
     ·have hbk:=(all_lt _ _).1 hb i hi
      rw [ho] at hbk
      have hlt:e<i:=by simpa [Nat.blt_eq] using (List.all_eq_true.1 hbk) e he
      exact ihi e hlt (by omega)
  | some i =>
   have hi:i ∈ rs:=List.mem_of_getElem? hsel
   obtain ⟨o,ho,hLi,hed⟩:=(hmem i).1 hi
   have hlt:i<L.size:=by
    rcases Nat.lt_or_ge i L.size with h | h
    ·exact h
    ·simp [h] at hLi
   obtain ⟨is,h1,h2⟩:=ih (t / rs.length) (L.setIfInBounds i true) (i::acc) (i::S) (by simpa using hL) (by have:=cnt_set L i hLi;omega) (fun q=>by
    rw [List.mem_cons,hS,Array.getElem?_setIfInBounds]
    by_cases e:i=q
    ·subst e;simp [hlt]
    ·have:¬ q=i:=fun h=>e h.symm
     simp [e,this])
   refine ⟨i::is,by simp [h1],.cons ho (fun h=>?_) hed h2⟩
   rw [hS,hLi] at h;cases h
theorem lin_schedule {P:Program} (hm:P.follows .mixedOrders=true) (ops:Array Oper) (hb:backOk ops=true) (t:Nat):Lin ops [] (Region.schedule (P.follows .mixedOrders) ops t):=by
 have:Region.schedule (P.follows .mixedOrders) ops t=Region.linearise .any ops t:=by simp [Region.schedule,hm]
 rw [this]
 obtain ⟨is,h1,h2⟩:=lin_go ops hb ops.size t (Array.replicate ops.size false) [] [] (by simp) (by
  unfold cnt
  refine Nat.le_trans (List.length_filter_le _ _) (by simp)) (fun i=>by
   simp only [List.not_mem_nil,false_iff,Array.getElem?_replicate]
   split <;> simp)
 simp only [Region.linearise]
 rw [h1];simpa using h2
def Closed (ops:Array Oper) (S:List Nat):Prop:=∀ i ∈ S,∀ o,ops[i]?=some o→∀ e ∈ edgesOn o,e ∈ S
def bef:List Nat→List Oper→List Nat
 | bs,[]=>bs
 | bs,o::l=>bef (bs++[(edgesOn o).foldl (fun s e=>s ||| (1 <<< e) ||| bs.getD e 0) 0]) l
theorem fold_bits (bs:List Nat) (Q:Nat→Prop):∀ (es:List Nat) (s:Nat),(∀ j,s.testBit j=true→Q j)→(∀ e ∈ es,Q e∧∀ j,(bs.getD e 0).testBit j=true→Q j)→∀ j,(es.foldl (fun s e=>s ||| (1 <<< e) ||| bs.getD e 0) s).testBit j=true→Q j:=by
 intro es
 induction es with
 | nil=>intro s h _ j hj;exact h j hj
 | cons e es ih =>
  intro s h he j hj
  refine ih _ ?_ (fun x hx=>he x (by simp [hx])) j hj
  intro i hi
  rw [Nat.testBit_or,Nat.testBit_or,Bool.or_eq_true,Bool.or_eq_true] at hi
  rcases hi with (hi | hi) | hi
  ·exact h i hi
  ·rw [Nat.testBit_shiftLeft] at hi
   simp only [Bool.and_eq_true,decide_eq_true_eq] at hi
   have:i=e:=by
    have h1:=hi.2
    have:i-e=0:=by
     rcases Nat.eq_zero_or_pos (i-e) with h | h
     ·exact h
     ·rw [Nat.testBit_one_eq_true_iff_self_eq_zero] at h1;exact h1
    omega
   subst this;exact (he i (by simp)).1
  ·exact (he e (by simp)).2 i hi
theorem bef_ok (ops:Array Oper) (hb:backOk ops=true):∀ (l:List Oper) (bs:List Nat),(∀ k o,l[k]?=some o→ops[bs.length+k]?=some o)→(∀ i o,i<bs.length→ops[i]?=some o→∀ S,Closed ops S→(∀ e ∈ edgesOn o,e ∈ S)→∀ j,(bs.getD i 0).testBit j=true→j ∈ S) →
  ∀ i o,i<bs.length+l.length→ops[i]?=some o→∀ S,Closed ops S→(∀ e ∈ edgesOn o,e ∈ S)→∀ j,((bef bs l).getD i 0).testBit j=true→j ∈ S:=by
 intro l
 induction l with
 | nil=>intro bs _ h i o hi;exact h i o (by simpa using hi)
 | cons o l ih =>
  intro bs hl h
  have ho:ops[bs.length]?=some o:=by simpa using hl 0 o rfl
  have:=ih (bs++[(edgesOn o).foldl (fun s e=>s ||| (1 <<< e) ||| bs.getD e 0) 0]) (fun k p hk=>by
   have:=hl (k+1) p (by simpa using hk)
   simpa [Nat.add_assoc,Nat.add_comm 1 k] using this) (fun i p hi hp S hS he j hj=>by
   rw [List.length_append,List.length_singleton] at hi
   rcases Nat.lt_or_ge i bs.length with hlt | hge
   ·refine h i p hlt hp S hS he j ?_
    rw [List.getD_eq_getElem?_getD,List.getElem?_append_left hlt,← List.getD_eq_getElem?_getD] at hj
    exact hj
   ·have:i=bs.length:=by omega
    subst this
    rw [ho] at hp;cases hp
    rw [List.getD_eq_getElem?_getD,List.getElem?_append_right (Nat.le_refl _)] at hj
    simp only [Nat.sub_self,List.getElem?_cons_zero,Option.getD_some] at hj
    refine fold_bits bs (fun j=>j ∈ S) _ 0 (by simp) (fun e hee=>⟨he e hee,fun j hj=>?_⟩) j hj
    have hlt:e<bs.length:=by
     have hbl:bs.length<ops.size:=by
      rcases Nat.lt_or_ge bs.length ops.size with h | h
      ·exact h
      ·simp [h] at ho
     have:=(all_lt _ _).1 hb bs.length hbl
     rw [ho] at this
     simpa [Nat.blt_eq] using (List.all_eq_true.1 this) e hee
    have hlo:∃ p,ops[e]?=some p:=⟨ops[e]'(by
     have hbl:bs.length<ops.size:=by
      rcases Nat.lt_or_ge bs.length ops.size with h | h
      ·exact h
      ·simp [h] at ho
     omega),by simp⟩
    obtain ⟨p,hp⟩:=hlo
    exact h e p hlt hp S hS (fun x hx=>hS e (he e hee) p hp x hx) j hj)
  intro i p hi hp
  exact this i p (by simp at hi ⊢;omega) hp
theorem lin_rest {ops:Array Oper} {m:Nat} (hord:∀ i o,m≤i→ops[i]?=some o→∀ S,Closed ops S→(∀ e ∈ edgesOn o,e ∈ S)→∀ j,j<i→j ∈ S):∀ {S is:List Nat},Lin ops S is→Closed ops S→∀ q,m≤q→q≤ops.size→(∀ j,j<ops.size→(j ∈ S↔j<q))→is=List.range' q (ops.size-q):=by
 intro S is h
 induction h with
 | @nil S hS =>
  intro _ q h1 h2 h3
  have:q=ops.size:=by
   rcases Nat.lt_or_ge q ops.size with h | h
   ·have:=(h3 q h).1 (hS q h);omega
   ·omega
  subst this;simp
 | @cons S is i o ho hn hed _ ih =>
  intro hcl q h1 h2 h3
  have hi:i<ops.size:=by
   rcases Nat.lt_or_ge i ops.size with h | h
   ·exact h
   ·simp [h] at ho
  have hiq:¬ i<q:=fun h=>hn ((h3 i hi).2 h)
  have hqi:i=q:=by
   rcases Nat.lt_or_ge q i with h | h
   ·have:=hord i o (by omega) ho S hcl hed q h
    have:=(h3 q (by omega)).1 this;omega
   ·omega
  subst hqi
  have:=ih (fun j hj p hp e he=>by
   rcases List.mem_cons.1 hj with rfl | hj
   ·rw [ho] at hp;cases hp
    exact List.mem_cons_of_mem _ (hed e he)
   ·exact List.mem_cons_of_mem _ (hcl j hj p hp e he)) (i+1) (by omega) (by omega) (fun j hj=>by
   rw [List.mem_cons,h3 j hj];omega)
  rw [this]
  have e:ops.size-i=(ops.size-(i+1))+1:=by omega
  rw [e,List.range'_succ]
def namesOf (ops:Array Oper) (o:Oper):List Nat:=o.dst.toList++opTmps o.op++match o.guard with
 | some (j,_)=>((ops[j]?).bind (·.dst)).toList
 | none=>[]
def lateOk (ops:Array Oper) (m:Nat):Bool:=(List.range ops.size).all fun i=>Nat.blt i m || (List.range i).all fun j=>((bef [] ops.toList).getD i 0).testBit j
def apartOk (ops:Array Oper) (m:Nat):Bool:=(List.range m).all fun i=>match ops[i]? with
 | some o=>(List.range i).all fun j=>match ops[j]? with
  | some p=>match o.dst,p.dst with
   | some d,some e=>!(Nat.beq d e) && ((edgesOn o).elem j || (!(namesOf ops o).elem e && !(namesOf ops p).elem d))
   | _,_=>false
  | none=>false
 | none=>false
section
variable {P:Program} {f:FuncId} {n:Nat} {k:List Item} {fr:Fr} {H:List Res} {ρ R:Type} {x:Option ρ} {X:ρ→Option R} {K:R→AV→List Res→Prop} {ops:Array Oper}
inductive QOp (P:Program) (n:Nat) (H:List Res) (ops:Array Oper) (fr:Fr):Oper→AV→Prop
 | r {op:Op} {ty:TypeId} {dst:Option Nat} {pos:String} {aft:Array Edge} {av:AV}:D P n H op ty fr av→QOp P n H ops fr ⟨dst,op,ty,pos,aft,none⟩ av
 | g {op:Op} {ty:TypeId} {dst:Option Nat} {pos:String} {aft:Array Edge} {av:AV} {j dj:Nat} {b t:Bool} {oj:Oper}:ops[j]?=some oj→oj.dst=some dj→look fr dj=some (Ab t)→t=b→Nat.blt dj n=true→D P n H op ty fr av→QOp P n H ops fr ⟨dst,op,ty,pos,aft,some (j,b)⟩ av
 | u {op:Op} {ty:TypeId} {dst:Option Nat} {pos:String} {aft:Array Edge} {j dj:Nat} {b t:Bool} {oj:Oper}:ops[j]?=some oj→oj.dst=some dj→look fr dj=some (Ab t)→t = !b→Nat.blt dj n=true→QOp P n H ops fr ⟨dst,op,ty,pos,aft,some (j,b)⟩ (.lit undef)
 | v {op:Op} {ty:TypeId} {dst:Option Nat} {pos:String} {aft:Array Edge} {j dj:Nat} {b:Bool} {oj:Oper}:ops[j]?=some oj→oj.dst=some dj→look fr dj=some (.lit undef)→Nat.blt dj n=true→QOp P n H ops fr ⟨dst,op,ty,pos,aft,some (j,b)⟩ (.lit undef)
inductive QL (P:Program) (n:Nat) (H:List Res) (ops:Array Oper):Fr→List Oper→Fr→List Oper→Prop
 | n {fr:Fr} {l:List Oper}:QL P n H ops fr l fr l
 | c {fr fr':Fr} {o:Oper} {l l':List Oper} {d:Nat} {av:AV}:QOp P n H ops fr o av→o.dst=some d→Nat.blt d n=true→QL P n H ops ((d,av)::fr) l fr' l'→QL P n H ops fr (o::l) fr' l'
theorem QL.list {fr':Fr} {l l':List Oper} (h:QL P n H ops fr l fr' l'):∃ qs:List (Nat×AV),fr'=qs.reverse++fr∧l.drop qs.length=l'∧qs.length≤l.length∧∀ i d av,qs[i]?=some (d,av)→∃ o,l[i]?=some o∧o.dst=some d∧d<n∧QOp P n H ops ((qs.take i).reverse++fr) o av:=by
 induction h with
 | n=>exact ⟨[],rfl,rfl,Nat.zero_le _,by simp⟩
 | @c fr fr' o l l' d av hq hd hdn _ ih =>
  obtain ⟨qs,h1,h2,h3,h4⟩:=ih
  refine ⟨(d,av)::qs,by simp [h1],by simpa using h2,by simpa using h3,fun i d' av' hi=>?_⟩
  cases i with
  | zero =>
   simp at hi
   obtain ⟨rfl,rfl⟩:=hi
   exact ⟨o,rfl,hd,by simpa [Nat.blt_eq] using hdn,by simpa using hq⟩
  | succ i =>
   obtain ⟨o',g1,g2,g3,g4⟩:=h4 i d' av' (by simpa using hi)
   exact ⟨o',by simpa using g1,g2,g3,by simpa using g4⟩
theorem look_append (qs:List (Nat×AV)) (fr:Fr) (t:Nat) (a:AV) (h:look (qs.reverse++fr) t=some a):(∃ j:Nat,qs[j]?=some (t,a))∨(look fr t=some a∧∀ (j d:Nat) (av:AV),qs[j]?=some (d,av)→d≠t):=by
 induction hn:qs.length generalizing qs with
 | zero=>have:=List.length_eq_zero_iff.1 hn;subst this;exact .inr ⟨by simpa using h,by simp⟩
 | succ z ih0 =>
  obtain ⟨qs,q,rfl⟩:∃ qs' q,qs=qs'++[q]:=⟨qs.dropLast,qs.getLast (by intro e;subst e;cases hn),(List.dropLast_concat_getLast _).symm⟩
  have ih:=ih0 qs
  obtain ⟨d,av⟩:=q
  simp only [List.reverse_append,List.reverse_cons,List.reverse_nil,List.nil_append,List.cons_append,look] at h
  by_cases e:d=t
  ·subst e;simp at h;subst h
   exact .inl ⟨qs.length,by simp⟩
  ·have:(d == t)=false:=by simpa using e
   rw [this] at h
   rcases ih (by simpa using h) (by simp at hn;omega) with ⟨j,hj⟩ | ⟨h1,h2⟩
   ·refine .inl ⟨j,?_⟩
    rw [List.getElem?_append_left];exact hj
    rcases Nat.lt_or_ge j qs.length with h | h
    ·exact h
    ·simp [h] at hj
   ·refine .inr ⟨h1,fun j d' av' hj=>?_⟩
    rw [List.getElem?_append] at hj
    split at hj
    ·exact h2 j d' av' hj
    ·rename_i hge
     cases hjj:j-qs.length with
     | zero=>rw [hjj] at hj;simp at hj;rw [← hj.1];exact e
     | succ z=>rw [hjj] at hj;simp at hj
theorem look_take {qs:List (Nat×AV)} {fr:Fr} {t:Nat} {a:AV} {i:Nat} (h:look ((qs.take i).reverse++fr) t=some a):(∃ j:Nat,j<i∧qs[j]?=some (t,a))∨(look fr t=some a∧∀ (j d:Nat) (av:AV),j<i→qs[j]?=some (d,av)→d≠t):=by
 rcases look_append _ _ _ _ h with ⟨j,hj⟩ | ⟨h1,h2⟩
 ·rw [List.getElem?_take] at hj
  split at hj
  ·rename_i hlt;exact .inl ⟨j,hlt,hj⟩
  ·cases hj
 ·exact .inr ⟨h1,fun j d av hlt hj=>h2 j d av (by rw [List.getElem?_take,if_pos hlt];exact hj)⟩
theorem f8 {id:Nat} {l l':List Oper} {fr':Fr} (m:Nat) (hm:P.follows .mixedOrders=true) (hl:ops.toList=l) (hb:backOk ops=true) (hlate:lateOk ops m=true) (hap:apartOk ops m=true) (hq:QL P n H ops fr l fr' l') (hlen:l'.length+m=l.length)
  (h:SimL P f n ops l' k fr' H x X K):Sim P f n (.code (.region id ops true)::k) fr H x X K:=by
 obtain ⟨qs,rfl,rfl,hle,hqs⟩:=hq.list
 have hql:qs.length=m:=by simp at hlen;omega
 subst hql hl
 intro r hr w0 F0 Z0 w F Z tmps hn hi hf
 refine .regionDraw fun t=>?_
 have hlin:=lin_schedule hm ops hb t
 have hord:∀ i o,qs.length≤i→ops[i]?=some o→∀ S,Closed ops S→(∀ e ∈ edgesOn o,e ∈ S)→∀ j,j<i→j ∈ S:=by
  intro i o h1 h2 S hS he j h3
  have hi':i<ops.size:=by
   rcases Nat.lt_or_ge i ops.size with h | h
   ·exact h
   ·simp [h] at h2
  have:=(all_lt _ _).1 hlate i hi'
  have hnb:Nat.blt i qs.length=false:=by
   cases hbb:Nat.blt i qs.length with
   | true=>rw [Nat.blt_eq] at hbb;omega
   | false=>rfl
  rw [hnb,Bool.false_or] at this
  have:=(all_lt _ _).1 this j h3
  exact bef_ok ops hb ops.toList [] (fun k o hk=>by simpa using hk) (fun i o hi=>by simp at hi) i o (by simpa using hi') h2 S hS he j this
 have hsz:ops.toList.length=ops.size:=by simp
 have hap':∀ i j o p d e a b,j<i→ops[i]?=some o→ops[j]?=some p→qs[i]?=some (d,a)→qs[j]?=some (e,b)→o.dst=some d→p.dst=some e→d≠e∧(j ∈ edgesOn o∨(e ∉ namesOf ops o∧d ∉ namesOf ops p)):=by
  intro i j o p d e a b hji ho hp hqi _ hd he
  have hi':i<qs.length:=by
   rcases Nat.lt_or_ge i qs.length with h | h
   ·exact h
   ·simp [h] at hqi
  have h1:=(all_lt _ _).1 hap i hi'
  rw [ho] at h1
  have h2:=(all_lt _ _).1 h1 j hji
  rw [hp] at h2
  simp only [hd,he] at h2
  rw [Bool.and_eq_true,Bool.or_eq_true,Bool.and_eq_true] at h2
  refine ⟨fun x=>?_,h2.2.imp (fun x=>by simpa using x) fun x=>⟨by simpa using x.1,by simpa using x.2⟩⟩
  have:=h2.1
  rw [x] at this;simp at this
 have final:∀ (Z:Nat→Prop) (w:World) (tmps:Array Value) (S:List Nat),(∀ j,j<qs.length→j ∈ S)→(∀ (i d:Nat) (a:AV),i ∈ S→qs[i]?=some (d,a)→a.p Z w (tmps.getD d undef))→(∀ (t:Nat) (a:AV),look fr t=some a→(∀ (i d:Nat) (b:AV),i ∈ S→qs[i]?=some (d,b)→d≠t)→a.p Z w (tmps.getD t undef))→FrOk (qs.reverse++fr) Z w tmps:=by
  intro Z w tmps S hS h1 h2 t a ht
  rcases look_append _ _ _ _ ht with ⟨j,hj⟩ | ⟨g1,g2⟩
  ·refine h1 j t a (hS j ?_) hj
   rcases Nat.lt_or_ge j qs.length with h | h
   ·exact h
   ·simp [h] at hj
  ·exact h2 t a g1 fun i d b _ hq=>g2 i d b hq
 have qlt:∀ {i:Nat} {q:Nat×AV},qs[i]?=some q→i<qs.length:=by
  intro i q hj
  rcases Nat.lt_or_ge i qs.length with h | h
  ·exact h
  ·simp [h] at hj
 have key:∀ S is,Lin ops S is→(∀ i ∈ S,i<qs.length)→(∀ i ∈ S,∀ o,ops[i]?=some o→∀ e ∈ edgesOn o,e ∈ S)→∀ (w:World) (Z:Nat→Prop) (tmps:Array Value),tmps.size=n→Inv w0 w F0 Z0 F Z H→(∀ (i d:Nat) (a:AV),i ∈ S→qs[i]?=some (d,a)→a.p Z w (tmps.getD d undef))→(∀ (t:Nat) (a:AV),look fr t=some a→(∀ (i d:Nat) (b:AV),i ∈ S→qs[i]?=some (d,b)→d≠t)→a.p Z w (tmps.getD t undef)) →
   Run P f (.inRegion ops is::k) tmps w (Done w0 F0 Z0 (K r)):=by
  intro S is hl
  induction hl with
  | @nil S hS =>
   intro hSm _ w Z tmps hn hi h1 h2
   have hm':ops.size≤qs.length:=by
    rcases Nat.lt_or_ge qs.length ops.size with h | h
    ·have:=hSm _ (hS _ h);omega
    ·exact h
   have hnil:ops.toList.drop qs.length=[]:=by simp;omega
   rw [hnil] at h
   exact h [] rfl r hr w0 F0 Z0 w F Z tmps hn hi (final Z w tmps S (fun j hj=>hS j (by have:=hle;simp at this;omega)) h1 h2)
  | @cons S is i o ho hnS hed hlin' ih =>
   intro hSm hcl w Z tmps hn hi h1 h2
   rcases Nat.lt_or_ge i qs.length with hlt | hge
   ·obtain ⟨⟨d,av⟩,hqi⟩:∃ q,qs[i]?=some q:=⟨qs[i],by simp [hlt]⟩
    obtain ⟨o',ho',hd,hdn,hop⟩:=hqs i d av hqi
    have:o'=o:=by rw [Array.getElem?_toList,ho] at ho';exact (Option.some.inj ho').symm
    subst this
    have hslot:∀ t,t ∈ namesOf ops o'→∀ a,look ((qs.take i).reverse++fr) t=some a→a.p Z w (tmps.getD t undef):=by
     intro t ht a hla
     rcases look_take hla with ⟨j,hji,hqj⟩ | ⟨g1,g2⟩
     ·obtain ⟨p,hp,hpd,_,_⟩:=hqs j t a hqj
      rw [Array.getElem?_toList] at hp
      rcases (hap' i j o' p d t av a hji ho hp hqi hqj hd hpd).2 with hin | hno
      ·exact h1 j t a (hed j hin) hqj
      ·exact absurd ht hno.1
     ·refine h2 t a g1 fun j e b hjS hqj=>?_
      rcases Nat.lt_trichotomy j i with hlt2 | heq | hgt
      ·exact g2 j e b hlt2 hqj
      ·subst heq;exact absurd hjS hnS
      ·intro het;subst het
       obtain ⟨p,hp,hpd,_,_⟩:=hqs j e b hqj
       rw [Array.getElem?_toList] at hp
       rcases (hap' j i p o' e d b av hgt hp ho hqj hqi hpd hd).2 with hin | hno
       ·exact hnS (hcl j hjS p hp i hin)
       ·exact hno.2 ht
    have hon:FrOn (opTmps o'.op) ((qs.take i).reverse++fr) Z w tmps:=fun t ht a ha=>hslot t (by unfold namesOf;simp [ht]) a ha
    have next:∀ v w' Z',Inv w0 w' F0 Z0 F Z' H→(∀ b,Z b→Z' b)→Keep Z w w'→av.p Z' w' v→Run P f (.inRegion ops is::k) (tmps.setIfInBounds d v) w' (Done w0 F0 Z0 (K r)):=by
     intro v w' Z' hi' hz hk hv
     refine ih (fun j hj=>?_) (fun j hj p hp e he=>?_) w' Z' _ (by simpa using hn) hi' (fun j e a hj hqj=>?_) (fun t a ht hno=>?_)
     ·rcases List.mem_cons.1 hj with rfl | hj
      ·exact hlt
      ·exact hSm j hj
     ·rcases List.mem_cons.1 hj with rfl | hj
      ·rw [ho] at hp;cases hp
       exact List.mem_cons_of_mem _ (hed e he)
      ·exact List.mem_cons_of_mem _ (hcl j hj p hp e he)
     ·rw [getD_set _ _ _ _ (by omega)]
      rcases List.mem_cons.1 hj with rfl | hjS
      ·rw [hqi] at hqj;cases hqj
       rw [if_pos rfl];exact hv
      ·obtain ⟨p,hp,hpd,_,_⟩:=hqs j e a hqj
       rw [Array.getElem?_toList] at hp
       have hne:j≠i:=fun x=>hnS (x ▸ hjS)
       have hde:d≠e:=by
        rcases Nat.lt_or_ge j i with h | h
        ·exact (hap' i j o' p d e av a h ho hp hqi hqj hd hpd).1
        ·exact fun x=>(hap' j i p o' e d a av (by omega) hp ho hqj hqi hpd hd).1 x.symm
       rw [if_neg hde]
       exact a.st hz hk (h1 j e a hjS hqj)
     ·rw [getD_set _ _ _ _ (by omega),if_neg (hno i d av (List.mem_cons_self ..) hqi)]
      exact a.st hz hk (h2 t a ht fun j e b hj hqj=>hno j e b (List.mem_cons_of_mem _ hj) hqj)
    cases hop with
    | r hD=>exact does_run (d:=d) hd hdn ho (wanted_none rfl) hn hi (hD _ rfl rfl w0 F0 Z0 w F Z tmps hn hi hon) next
    | @g op ty dst pos aft av j dj b t oj hj hdj hl ht hjn hD =>
     have hjn':dj<tmps.size:=by rw [hn];simpa [Nat.blt_eq] using hjn
     have hy:=yield_of hj hdj hjn' (hslot dj (by simp [namesOf,hj,hdj]) _ hl)
     exact does_run (d:=d) hd hdn ho (by simp [Region.wanted,hy,ht]) hn hi (hD _ rfl rfl w0 F0 Z0 w F Z tmps hn hi hon) next
    | @u op ty dst pos aft j dj b t oj hj hdj hl ht hjn =>
     have hjn':dj<tmps.size:=by rw [hn];simpa [Nat.blt_eq] using hjn
     have hy:=yield_of hj hdj hjn' (hslot dj (by simp [namesOf,hj,hdj]) _ hl)
     refine .unwanted ho (by subst ht;cases b <;> simp [Region.wanted,hy]) ?_
     rw [show (⟨dst,op,ty,pos,aft,some (j,b)⟩:Oper).dst=some d from hd]
     exact next undef w Z hi (fun _ x=>x) (Keep.refl _ _) rfl
    | @v op ty dst pos aft j dj b oj hj hdj hl hjn =>
     have hjn':dj<tmps.size:=by rw [hn];simpa [Nat.blt_eq] using hjn
     have hy:=yield_none hj hdj hjn' (hslot dj (by simp [namesOf,hj,hdj]) _ hl)
     refine .unwanted ho (by simp [Region.wanted,hy]) ?_
     rw [show (⟨dst,op,ty,pos,aft,some (j,b)⟩:Oper).dst=some d from hd]
     exact next undef w Z hi (fun _ x=>x) (Keep.refl _ _) rfl
   ·have hi':i<ops.size:=by
     rcases Nat.lt_or_ge i ops.size with h | h
     ·exact h
     ·simp [h] at ho
    have hall:∀ j,j<qs.length→j ∈ S:=fun j hj=>hord i o hge ho S hcl hed j (by omega)
    have hrest:=lin_rest hord (Lin.cons ho hnS hed hlin') hcl qs.length (Nat.le_refl _) (by simpa using hle) (fun j _=>⟨hSm j,hall j⟩)
    rw [hrest]
    refine h _ ?_ r hr w0 F0 Z0 w F Z tmps hn hi (final Z w tmps S hall h1 h2)
    apply List.ext_getElem?
    intro q
    simp only [List.getElem?_map,List.getElem?_drop,Array.getElem?_toList,List.getElem?_range']
    by_cases hq:q<ops.size-qs.length
    ·have:qs.length+q<ops.size:=by omega
     simp [hq,this]
    ·have:¬ qs.length+q<ops.size:=by omega
     simp [hq,this]
 exact key [] _ hlin (by simp) (by simp) _ Z tmps hn (hi.quiet (Step.drew w _) (fun _ x=>x) (fun _ x=>.inl x)) (by simp) (fun t a ht _=>AV.st a (w:=w) (w':={ w with drawn:=w.drawn+1 }) (fun _ x=>x) (fun _ _=>rfl) (hf t a ht))
theorem D.more {op:Op} {ty:TypeId} {av:AV} {r:Res} (h:D P n H op ty fr av):D P n (r::H) op ty fr av :=
 fun o ho hty w0 F0 Z0 w F Z tmps hn hi hf=>h o ho hty w0 F0 Z0 w F Z tmps hn (hi.less fun ⟨F1,F2,_,h2,_,h4⟩=>h2.wide h4) hf
def storeOk (ops:Array Oper) (m jx dx:Nat):Bool:=match ops[jx]?,ops[m+1]? with
 | some p,some o=>(match p.dst with | some e=>Nat.beq e dx | none=>false) && (edgesOn o).elem jx && (edgesOn o).elem m && Nat.blt jx m
 | _,_=>false
theorem Gc {id:Nat} {l l':List Oper} {fr':Fr} {da:Nat} {ta ty:TypeId} {zs:List Value} {az:List AV} {pos pos2:String} {aft aft2:Array Edge} {tt ty2:TypeId} {dx sz:Nat} {ax:AV} {bs:List AV} (m jx:Nat) (hm:P.follows .mixedOrders=true) (hl:ops.toList=l) (hb:backOk ops=true) (hlate:lateOk ops (m+2)=true) (hap:apartOk ops (m+1)=true) (hst:storeOk ops m jx dx=true) (hq:QL P n H ops fr l fr' (⟨some da,.alloc ta,ty,pos,aft,none⟩::⟨none,.store tt (.tmp da) (.tmp dx),ty2,pos2,aft2,none⟩::l')) (hlen:l'.length+(m+2)=l.length)
  (hz:∀ w,(Instr.alloc ta true (.tuple #[])).run P w = .ok (.pointer (some ⟨w.heap.size,0,none⟩)) (w.alloc (.cells zs.toArray ta))) (ha:∀ Z w,AllP Z w az zs) (hdn:Nat.blt da n=true)
  (hss:SizeIs P tt sz) (hxx:look fr' dx=some ax) (hcx:CellsOf ax bs) (hox:OneL bs) (hbl:bs.length=sz) (hsl:sz≤az.length)
  (h:∀ b,SimL P f n ops l' k ((da,.lit (.pointer (some ⟨b,0,none⟩)))::fr') (.box b (splice az 0 bs)::H) x X K):Sim P f n (.code (.region id ops true)::k) fr H x X K:=by
 obtain ⟨qs,rfl,hdrop,hle,hqs⟩:=hq.list
 have hql:qs.length=m:=by
  have:=congrArg List.length hdrop
  simp at this;omega
 have hl':l'=l.drop (qs.length+2):=by
  rw [← List.drop_drop,hdrop];rfl
 have hsto:l[qs.length+1]?=some ⟨none,.store tt (.tmp da) (.tmp dx),ty2,pos2,aft2,none⟩:=by
  have:=congrArg (·[1]?) hdrop
  simpa using this
 have hda:l[qs.length]?=some ⟨some da,.alloc ta,ty,pos,aft,none⟩:=by
  have:=congrArg (·[0]?) hdrop
  simpa using this
 subst hql hl hl'
 have hda':ops[qs.length]?=some ⟨some da,.alloc ta,ty,pos,aft,none⟩:=by simpa using hda
 have hsto':ops[qs.length+1]?=some ⟨none,.store tt (.tmp da) (.tmp dx),ty2,pos2,aft2,none⟩:=by simpa using hsto
 have hdn':da<n:=by simpa [Nat.blt_eq] using hdn
 intro r hr w0 F0 Z0 w F Z tmps hn hi hf
 refine .regionDraw fun t=>?_
 have hlin:=lin_schedule hm ops hb t
 have hord:∀ i o,qs.length+2≤i→ops[i]?=some o→∀ S,Closed ops S→(∀ e ∈ edgesOn o,e ∈ S)→∀ j,j<i→j ∈ S:=by
  intro i o h1 h2 S hS he j h3
  have hi':i<ops.size:=by
   rcases Nat.lt_or_ge i ops.size with h | h
   ·exact h
   ·simp [h] at h2
  have:=(all_lt _ _).1 hlate i hi'
  have hnb:Nat.blt i (qs.length+2)=false:=by
   cases hbb:Nat.blt i (qs.length+2) with
   | true=>rw [Nat.blt_eq] at hbb;omega
   | false=>rfl
  rw [hnb,Bool.false_or] at this
  have:=(all_lt _ _).1 this j h3
  exact bef_ok ops hb ops.toList [] (fun k o hk=>by simpa using hk) (fun i o hi=>by simp at hi) i o (by simpa using hi') h2 S hS he j this
 have hmsz:qs.length+1<ops.size:=by
  rcases Nat.lt_or_ge (qs.length+1) ops.size with h | h
  ·exact h
  ·simp [h] at hsto'
 have hap0:∀ i j o p d e,j<i→i<qs.length+1→ops[i]?=some o→ops[j]?=some p→o.dst=some d→p.dst=some e→d≠e∧(j ∈ edgesOn o∨(e ∉ namesOf ops o∧d ∉ namesOf ops p)):=by
  intro i j o p d e hji hi' ho hp hd he
  have h1:=(all_lt _ _).1 hap i hi'
  rw [ho] at h1
  have h2:=(all_lt _ _).1 h1 j hji
  rw [hp] at h2
  simp only [hd,he] at h2
  rw [Bool.and_eq_true,Bool.or_eq_true,Bool.and_eq_true] at h2
  refine ⟨fun x=>?_,h2.2.imp (fun x=>by simpa using x) fun x=>⟨by simpa using x.1,by simpa using x.2⟩⟩
  have:=h2.1
  rw [x] at this;simp at this
 have qlt:∀ {i:Nat} {q:Nat×AV},qs[i]?=some q→i<qs.length:=by
  intro i q hj
  rcases Nat.lt_or_ge i qs.length with h | h
  ·exact h
  ·simp [h] at hj
 have hap':∀ i j o p d e a b,j<i→ops[i]?=some o→ops[j]?=some p→qs[i]?=some (d,a)→qs[j]?=some (e,b)→o.dst=some d→p.dst=some e→d≠e∧(j ∈ edgesOn o∨(e ∉ namesOf ops o∧d ∉ namesOf ops p)) :=
  fun i j o p d e a b hji ho hp hqi _ hd he=>hap0 i j o p d e hji (by have:=qlt hqi;omega) ho hp hd he
 have hapm:∀ j p e b,ops[j]?=some p→qs[j]?=some (e,b)→p.dst=some e→da≠e∧(j ∈ aft.toList.filterMap (fun ed=>if Region.binds .any ed then some ed.on else none)∨da ∉ namesOf ops p):=by
  intro j p e b hp hqj he
  obtain ⟨h1,h2⟩:=hap0 qs.length j _ p da e (qlt hqj) (by omega) hda' hp rfl he
  refine ⟨h1,?_⟩
  rcases h2 with h2 | h2
  ·refine .inl ?_
   simp only [edgesOn,List.mem_map,List.mem_filter] at h2
   obtain ⟨ed,⟨h3,h4⟩,rfl⟩:=h2
   exact List.mem_filterMap.2 ⟨ed,h3,by rw [if_pos h4]⟩
  ·exact .inr h2.2
 obtain ⟨hjlt,hjm,hjx,hjd⟩:jx<qs.length∧qs.length ∈ edgesOn ⟨none,.store tt (.tmp da) (.tmp dx),ty2,pos2,aft2,none⟩∧jx ∈ edgesOn ⟨none,.store tt (.tmp da) (.tmp dx),ty2,pos2,aft2,none⟩∧qs[jx]?=some (dx,ax):=by
  unfold storeOk at hst
  rw [hsto'] at hst
  cases hp:ops[jx]? with
  | none=>rw [hp] at hst;simp at hst
  | some p =>
   rw [hp] at hst
   cases hpd:p.dst with
   | none=>simp [hpd] at hst
   | some e =>
    simp only [hpd,Bool.and_eq_true,Nat.beq_eq,Nat.blt_eq] at hst
    obtain ⟨⟨⟨rfl,h1⟩,h2⟩,h3⟩:=hst
    refine ⟨h3,by simpa using h2,by simpa using h1,?_⟩
    obtain ⟨⟨d,a⟩,hqj⟩:∃ q,qs[jx]?=some q:=⟨qs[jx],by simp [h3]⟩
    obtain ⟨p',hp',hd',_,_⟩:=hqs jx d a hqj
    rw [Array.getElem?_toList,hp] at hp'
    cases hp'
    rw [hpd] at hd';cases hd'
    rw [hqj]
    rcases look_append _ _ _ _ hxx with ⟨j,hj⟩ | ⟨_,g2⟩
    ·obtain ⟨p2,hp2,hd2,_,_⟩:=hqs j e ax hj
     rw [Array.getElem?_toList] at hp2
     rcases Nat.lt_trichotomy j jx with hlt | heq | hgt
     ·exact absurd rfl (hap' jx j p p2 e e a ax hlt hp hp2 hqj hj hpd hd2).1
     ·subst heq;rw [hqj] at hj;exact hj
     ·exact absurd rfl (hap' j jx p2 p e e ax a hgt hp2 hp hj hqj hd2 hpd).1
    ·exact absurd rfl (g2 jx e a hqj)
 have hdax:da≠dx:=by
  obtain ⟨p,hp,hpd,_,_⟩:=hqs jx dx ax hjd
  rw [Array.getElem?_toList] at hp
  exact (hapm jx p dx ax hp hjd hpd).1
 have final:∀ (Z:Nat→Prop) (w:World) (tmps:Array Value) (S:List Nat) (b:Nat),(∀ j,j<qs.length+2→j ∈ S)→tmps.getD da undef = .pointer (some ⟨b,0,none⟩)→(∀ (i d:Nat) (a:AV),i ∈ S→qs[i]?=some (d,a)→a.p Z w (tmps.getD d undef))→(∀ (t:Nat) (a:AV),look fr t=some a→t≠da→(∀ (i d:Nat) (b:AV),i ∈ S→qs[i]?=some (d,b)→d≠t)→a.p Z w (tmps.getD t undef))→FrOk ((da,.lit (.pointer (some ⟨b,0,none⟩)))::(qs.reverse++fr)) Z w tmps:=by
  intro Z w tmps S b hS hda h1 h2 t a ht
  simp only [look] at ht
  by_cases e:da=t
  ·subst e;simp at ht;subst ht;exact hda
  ·have:(da == t)=false:=by simpa using e
   rw [this] at ht
   rcases look_append _ _ _ _ (by simpa using ht) with ⟨j,hj⟩ | ⟨g1,g2⟩
   ·exact h1 j t a (hS j (by have:=qlt hj;omega)) hj
   ·exact h2 t a g1 (fun x=>e x.symm) fun i d b _ hq=>g2 i d b hq
 have key:∀ S is,Lin ops S is→(∀ i ∈ S,i<qs.length+2)→(∀ i ∈ S,∀ o,ops[i]?=some o→∀ e ∈ edgesOn o,e ∈ S)→∀ (w:World) (F Z:Nat→Prop) (tmps:Array Value),tmps.size=n→((qs.length ∉ S∧Inv w0 w F0 Z0 F Z H)∨(qs.length ∈ S∧∃ b,tmps.getD da undef = .pointer (some ⟨b,0,none⟩)∧((qs.length+1 ∉ S∧Inv w0 w F0 Z0 F Z (.box b az::H))∨(qs.length+1 ∈ S∧Inv w0 w F0 Z0 F Z (.box b (splice az 0 bs)::H)))))→(∀ (i d:Nat) (a:AV),i ∈ S→qs[i]?=some (d,a)→a.p Z w (tmps.getD d undef))→(∀ (t:Nat) (a:AV),look fr t=some a→(qs.length ∈ S→t≠da)→(∀ (i d:Nat) (b:AV),i ∈ S→qs[i]?=some (d,b)→d≠t)→a.p Z w (tmps.getD t undef)) →
   Run P f (.inRegion ops is::k) tmps w (Done w0 F0 Z0 (K r)):=by
  intro S is hl
  induction hl with
  | @nil S hS =>
   intro hSm _ w F Z tmps hn hi h1 h2
   have hm':ops.size≤qs.length+2:=by
    rcases Nat.lt_or_ge (qs.length+2) ops.size with h | h
    ·have:=hSm _ (hS _ h);omega
    ·exact h
   have hnil:ops.toList.drop (qs.length+2)=[]:=by simp;omega
   rcases hi with ⟨hno,_⟩ | ⟨hin,b,hb',⟨hno,_⟩ | ⟨_,hi⟩⟩
   ·exact absurd (hS _ (by omega)) hno
   ·exact absurd (hS _ hmsz) hno
   rw [hnil] at h
   exact h b [] rfl r hr w0 F0 Z0 w F Z tmps hn hi (final Z w tmps S b (fun j hj=>hS j (by omega)) hb' h1 fun t a ht ht'=>h2 t a ht fun _=>ht')
  | @cons S is i o ho hnS hed hlin' ih =>
   intro hSm hcl w F Z tmps hn hi h1 h2
   rcases Nat.lt_trichotomy i qs.length with hlt | heq | hge
   ·obtain ⟨⟨d,av⟩,hqi⟩:∃ q,qs[i]?=some q:=⟨qs[i],by simp [hlt]⟩
    obtain ⟨o',ho',hd,hdn2,hop⟩:=hqs i d av hqi
    have:o'=o:=by rw [Array.getElem?_toList,ho] at ho';exact (Option.some.inj ho').symm
    subst this
    have hdne:=(hapm i o' d av ho hqi hd).1
    have hslot:∀ t,t ∈ namesOf ops o'→∀ a,look ((qs.take i).reverse++fr) t=some a→a.p Z w (tmps.getD t undef):=by
     intro t ht a hla
     rcases look_take hla with ⟨j,hji,hqj⟩ | ⟨g1,g2⟩
     ·obtain ⟨p,hp,hpd,_,_⟩:=hqs j t a hqj
      rw [Array.getElem?_toList] at hp
      rcases (hap' i j o' p d t av a hji ho hp hqi hqj hd hpd).2 with hin | hno
      ·exact h1 j t a (hed j hin) hqj
      ·exact absurd ht hno.1
     ·refine h2 t a g1 (fun hmS=>?_) fun j e b hjS hqj=>?_
      ·
       intro hta;subst hta
       obtain ⟨_,h4⟩:=hapm i o' d av ho hqi hd
       rcases h4 with h4 | h4
       ·
        obtain ⟨ed,h5,h6⟩:=List.mem_filterMap.1 h4
        split at h6
        ·rename_i hbd
         simp at h6
         exact hnS (hcl qs.length hmS _ hda' i (by simp only [edgesOn,List.mem_map,List.mem_filter];exact ⟨ed,⟨h5,hbd⟩,h6⟩))
        ·cases h6
       ·exact h4 ht
      ·rcases Nat.lt_trichotomy j i with hlt2 | heq | hgt
       ·exact g2 j e b hlt2 hqj
       ·subst heq;exact absurd hjS hnS
       ·intro het;subst het
        obtain ⟨p,hp,hpd,_,_⟩:=hqs j e b hqj
        rw [Array.getElem?_toList] at hp
        rcases (hap' j i p o' e d b av hgt hp ho hqj hqi hpd hd).2 with hin | hno
        ·exact hnS (hcl j hjS p hp i hin)
        ·exact hno.2 ht
    have hon:FrOn (opTmps o'.op) ((qs.take i).reverse++fr) Z w tmps:=fun t ht a ha=>hslot t (by unfold namesOf;simp [ht]) a ha
    have next:∀ v w' Z',((qs.length ∉ S∧Inv w0 w' F0 Z0 F Z' H)∨(qs.length ∈ S∧∃ b,tmps.getD da undef = .pointer (some ⟨b,0,none⟩)∧((qs.length+1 ∉ S∧Inv w0 w' F0 Z0 F Z' (.box b az::H))∨(qs.length+1 ∈ S∧Inv w0 w' F0 Z0 F Z' (.box b (splice az 0 bs)::H)))))→(∀ b,Z b→Z' b)→Keep Z w w'→av.p Z' w' v→Run P f (.inRegion ops is::k) (tmps.setIfInBounds d v) w' (Done w0 F0 Z0 (K r)):=by
     intro v w' Z' hi' hz hk hv
     refine ih (fun j hj=>?_) (fun j hj p hp e he=>?_) w' F Z' _ (by simpa using hn) ?_ (fun j e a hj hqj=>?_) (fun t a ht hta hno=>?_)
     ·rcases List.mem_cons.1 hj with rfl | hj
      ·omega
      ·exact hSm j hj
     ·rcases List.mem_cons.1 hj with rfl | hj
      ·rw [ho] at hp;cases hp
       exact List.mem_cons_of_mem _ (hed e he)
      ·exact List.mem_cons_of_mem _ (hcl j hj p hp e he)
     ·rcases hi' with ⟨hno,hi'⟩ | ⟨hin,b,hb',hi'⟩
      ·exact .inl ⟨fun hx=>by rcases List.mem_cons.1 hx with hx | hx;omega;exact hno hx,hi'⟩
      ·refine .inr ⟨List.mem_cons_of_mem _ hin,b,by rw [getD_set _ _ _ _ (by omega),if_neg (fun x=>hdne x.symm)];exact hb',?_⟩
       rcases hi' with ⟨hno,hi'⟩ | ⟨hin2,hi'⟩
       ·exact .inl ⟨fun hx=>by rcases List.mem_cons.1 hx with hx | hx;omega;exact hno hx,hi'⟩
       ·exact .inr ⟨List.mem_cons_of_mem _ hin2,hi'⟩
     ·rw [getD_set _ _ _ _ (by omega)]
      rcases List.mem_cons.1 hj with rfl | hjS
      ·rw [hqi] at hqj;cases hqj
       rw [if_pos rfl];exact hv
      ·obtain ⟨p,hp,hpd,_,_⟩:=hqs j e a hqj
       rw [Array.getElem?_toList] at hp
       have hne:j≠i:=fun x=>hnS (x ▸ hjS)
       have hde:d≠e:=by
        rcases Nat.lt_or_ge j i with h | h
        ·exact (hap' i j o' p d e av a h ho hp hqi hqj hd hpd).1
        ·exact fun x=>(hap' j i p o' e d a av (by omega) hp ho hqj hqi hpd hd).1 x.symm
       rw [if_neg hde]
       exact a.st hz hk (h1 j e a hjS hqj)
     ·rw [getD_set _ _ _ _ (by omega),if_neg (hno i d av (List.mem_cons_self ..) hqi)]
      exact a.st hz hk (h2 t a ht (fun hx=>hta (List.mem_cons_of_mem _ hx)) fun j e b hj hqj=>hno j e b (List.mem_cons_of_mem _ hj) hqj)
    have quiet:∀ (op:Op) (ty:TypeId),o'.op=op→o'.type=ty→D P n H op ty ((qs.take i).reverse++fr) av→Region.wanted o' (yielded ops tmps)=true→Run P f (.inRegion ops (i::is)::k) tmps w (Done w0 F0 Z0 (K r)):=by
     intro op ty e1 e2 hD hw
     subst e1 e2
     rcases hi with ⟨hno,hi⟩ | ⟨hin,b,hb',⟨hno,hi⟩ | ⟨hin2,hi⟩⟩
     ·exact does_run (d:=d) hd hdn2 ho hw hn hi (hD o' rfl rfl w0 F0 Z0 w F Z tmps hn hi hon) fun v w' Z' hi'=>next v w' Z' (.inl ⟨hno,hi'⟩)
     ·exact does_run (d:=d) hd hdn2 ho hw hn hi (hD.more o' rfl rfl w0 F0 Z0 w F Z tmps hn hi hon) fun v w' Z' hi'=>next v w' Z' (.inr ⟨hin,b,hb',.inl ⟨hno,hi'⟩⟩)
     ·exact does_run (d:=d) hd hdn2 ho hw hn hi (hD.more o' rfl rfl w0 F0 Z0 w F Z tmps hn hi hon) fun v w' Z' hi'=>next v w' Z' (.inr ⟨hin,b,hb',.inr ⟨hin2,hi'⟩⟩)
    have quiet0:Region.wanted o' (yielded ops tmps)=false→av = .lit undef→Run P f (.inRegion ops (i::is)::k) tmps w (Done w0 F0 Z0 (K r)):=by
     intro hw hav
     refine .unwanted ho hw ?_
     rw [hd]
     exact next undef w Z hi (fun _ x=>x) (Keep.refl _ _) (by rw [hav];rfl)
    cases hop with
    | r hD=>exact quiet _ _ rfl rfl hD (wanted_none rfl)
    | @g op ty dst pos aft av j dj b t oj hj hdj hl ht hjn hD =>
     have hjn':dj<tmps.size:=by rw [hn];simpa [Nat.blt_eq] using hjn
     have hy:=yield_of hj hdj hjn' (hslot dj (by simp [namesOf,hj,hdj]) _ hl)
     exact quiet _ _ rfl rfl hD (by simp [Region.wanted,hy,ht])
    | @u op ty dst pos aft j dj b t oj hj hdj hl ht hjn =>
     have hjn':dj<tmps.size:=by rw [hn];simpa [Nat.blt_eq] using hjn
     have hy:=yield_of hj hdj hjn' (hslot dj (by simp [namesOf,hj,hdj]) _ hl)
     exact quiet0 (by subst ht;cases b <;> simp [Region.wanted,hy]) rfl
    | @v op ty dst pos aft j dj b oj hj hdj hl hjn =>
     have hjn':dj<tmps.size:=by rw [hn];simpa [Nat.blt_eq] using hjn
     have hy:=yield_none hj hdj hjn' (hslot dj (by simp [namesOf,hj,hdj]) _ hl)
     exact quiet0 (by simp [Region.wanted,hy]) rfl
   ·subst heq
    rw [hda'] at ho;cases ho
    have hi:Inv w0 w F0 Z0 F Z H:=by
     rcases hi with ⟨_,hi⟩ | ⟨hin,_⟩
     ·exact hi
     ·exact absurd hin hnS
    have s:=Step.alloc w (.cells zs.toArray ta) (fun _=>False)
    refine .value hda' (wanted_none rfl) (v:=.pointer (some ⟨w.heap.size,0,none⟩)) (w':=w.alloc (.cells zs.toArray ta)) (by simp [execOp,hz w,Sem.run_bind]) ?_
    show Run P f _ (tmps.setIfInBounds da _) _ _
    refine ih (fun j hj=>?_) (fun j hj p hp e he=>?_) _ (fun b=>F b∨b=w.heap.size) Z _ (by simpa using hn) (.inr ⟨List.mem_cons_self ..,w.heap.size,by rw [getD_set _ _ _ _ (by omega),if_pos rfl],.inl ⟨fun hx=>by
      rcases List.mem_cons.1 hx with hx | hx
      ·omega
      ·exact hnS (hcl _ hx _ hsto' _ hjm),hi.push _ (.box w.heap.size az) ⟨rfl,zs,ta,alloc_cells w zs ta,ha _ _⟩⟩⟩) (fun j e a hj hqj=>?_) (fun t a ht hta hno=>?_)
    ·rcases List.mem_cons.1 hj with rfl | hj
     ·omega
     ·exact hSm j hj
    ·rcases List.mem_cons.1 hj with rfl | hj
     ·rw [hda'] at hp;cases hp
      exact List.mem_cons_of_mem _ (hed e he)
     ·exact List.mem_cons_of_mem _ (hcl j hj p hp e he)
    ·rcases List.mem_cons.1 hj with rfl | hjS
     ·have:=qlt hqj;omega
     ·obtain ⟨p,hp,hpd,_,_⟩:=hqs j e a hqj
      rw [Array.getElem?_toList] at hp
      rw [getD_set _ _ _ _ (by omega),if_neg (hapm j p e a hp hqj hpd).1]
      exact a.st (fun _ x=>x) (s.keep' hi) (h1 j e a hjS hqj)
    ·have:t≠da:=hta (List.mem_cons_self ..)
     rw [getD_set _ _ _ _ (by omega),if_neg (fun x=>this x.symm)]
     exact a.st (fun _ x=>x) (s.keep' hi) (h2 t a ht (fun hx=>absurd hx hnS) fun j e b hj hqj=>hno j e b (List.mem_cons_of_mem _ hj) hqj)
   ·rcases Nat.lt_or_eq_of_le (Nat.succ_le_of_lt hge) with hge | heq
    case inr =>
     have heq:i=qs.length+1:=heq.symm
     subst heq
     rw [hsto'] at ho;cases ho
     have hmS:qs.length ∈ S:=hed _ hjm
     have hjS:jx ∈ S:=hed _ hjx
     rcases hi with ⟨hno,_⟩ | ⟨_,b,hb',⟨_,hi⟩ | ⟨hin,_⟩⟩
     ·exact absurd hmS hno
     ·have hxv:=h1 jx dx ax hjS hjd
      have hbe:(da == dx)=false:=by simpa using hdax
      obtain ⟨w',F',Z',hrun,hi',hz,hk⟩:=stB_op (P:=P) (fr:=[(da,.lit (.pointer (some ⟨b,0,none⟩))),(dx,ax)]) (H:=.box b az::H) (j:=0) (o:=0) (y:=.tmp da) (v:=.tmp dx) hss (by simp [arg,look]) rfl (by simp only [arg,look,hbe];simp) hcx hox hbl (by omega) ⟨none,.store tt (.tmp da) (.tmp dx),ty2,pos2,aft2,none⟩ rfl w0 F0 Z0 w F Z (⟨tmps,[]⟩:Act).eval hi (fun {u a} hm hx=>arg_ok (op:=.store tt (.tmp da) (.tmp dx)) (fr:=[(da,.lit (.pointer (some ⟨b,0,none⟩))),(dx,ax)]) (fun t ht a hl=>by
       simp only [look] at hl
       by_cases e:da=t
       ·subst e;simp at hl;subst hl;exact hb'
       ·have e1:(da == t)=false:=by simpa using e
        rw [e1] at hl
        by_cases e2:dx=t
        ·subst e2;simp at hl;subst hl;exact hxv
        ·have e3:(dx == t)=false:=by simpa using e2
         simp [e3] at hl) hx hm)
      refine .skipped hsto' (wanted_none rfl) hrun ?_
      show Run P f _ tmps _ _
      refine ih (fun j hj=>?_) (fun j hj p hp e he=>?_) w' F' Z' tmps hn (.inr ⟨List.mem_cons_of_mem _ hmS,b,hb',.inr ⟨List.mem_cons_self ..,hi'⟩⟩) (fun j e a hj hqj=>?_) (fun t a ht hta hno=>?_)
      ·rcases List.mem_cons.1 hj with rfl | hj
       ·omega
       ·exact hSm j hj
      ·rcases List.mem_cons.1 hj with rfl | hj
       ·rw [hsto'] at hp;cases hp
        exact List.mem_cons_of_mem _ (hed e he)
       ·exact List.mem_cons_of_mem _ (hcl j hj p hp e he)
      ·rcases List.mem_cons.1 hj with rfl | hjS
       ·have:=qlt hqj;omega
       ·exact a.st hz hk (h1 j e a hjS hqj)
      ·exact a.st hz hk (h2 t a ht (fun hx=>hta (List.mem_cons_of_mem _ hx)) fun j e b hj hqj=>hno j e b (List.mem_cons_of_mem _ hj) hqj)
     ·exact absurd hin hnS
    have hi':i<ops.size:=by
     rcases Nat.lt_or_ge i ops.size with h | h
     ·exact h
     ·simp [h] at ho
    have hall:∀ j,j<qs.length+2→j ∈ S:=fun j hj=>hord i o (by omega) ho S hcl hed j (by omega)
    have hrest:=lin_rest hord (Lin.cons ho hnS hed hlin') hcl (qs.length+2) (Nat.le_refl _) (by omega) (fun j _=>⟨hSm j,hall j⟩)
    rw [hrest]
    rcases hi with ⟨hno,_⟩ | ⟨hin,b,hb',⟨hno,_⟩ | ⟨_,hi⟩⟩
    ·exact absurd (hall _ (by omega)) hno
    ·exact absurd (hall _ (by omega)) hno
    refine h b _ ?_ r hr w0 F0 Z0 w F Z tmps hn hi (final Z w tmps S b hall hb' h1 fun t a ht ht'=>h2 t a ht fun _=>ht')
    apply List.ext_getElem?
    intro q
    simp only [List.getElem?_map,List.getElem?_drop,Array.getElem?_toList,List.getElem?_range']
    by_cases hq:q<ops.size-(qs.length+2)
    ·have:qs.length+2+q<ops.size:=by omega
     simp [hq,this]
    ·have:¬ qs.length+2+q<ops.size:=by omega
     simp [hq,this]
 exact key [] _ hlin (by simp) (by simp) _ F Z tmps hn (.inl ⟨by simp,hi.quiet (Step.drew w _) (fun _ x=>x) (fun _ x=>.inl x)⟩) (by simp) (fun t a ht _ _=>AV.st a (w:=w) (w':={ w with drawn:=w.drawn+1 }) (fun _ x=>x) (fun _ _=>rfl) (hf t a ht))
end
end S
namespace S
open Go.RowKit
set_option linter.unusedVariables false
set_option linter.unusedSimpArgs false
def cI (k:IntKind):Co Int:=⟨fun x=>[Ai k x],1,by decide,fun _=>rfl,fun _=>⟨oLit rfl,trivial⟩⟩
def cB:Co Bool:=⟨fun x=>[Ab x],1,by decide,fun _=>rfl,fun _=>⟨oLit rfl,trivial⟩⟩
def cS:Co ByteArray:=⟨fun x=>[.lit (.string x)],1,by decide,fun _=>rfl,fun _=>⟨oLit rfl,trivial⟩⟩
def cL {T:Type} (c:Co T):Co (List T):=⟨fun x=>[.fsl c x],1,by decide,fun _=>rfl,fun _=>⟨oFsl,trivial⟩⟩
theorem oSv {v:Value}:(AV.sv v).One:=fun _ _ _ ⟨e,_,_,_,h⟩=>by rw [e,h];rfl
section
variable {P:Program} {f:FuncId} {n:Nat} {ops:Array Oper} {l:List Oper} {k:List Item} {fr:Fr} {H:List Res} {ρ R:Type} {x:Option ρ} {X:ρ→Option R} {K:R→AV→List Res→Prop} {ty t t' e:TypeId} {d:Nat} {pos:String} {aft:Array Edge}
theorem spec_of' {fn:Func} {c:Code} {avs:List AV} {y:Option R} {en:R→AV} {m:Nat} (hf:P.funcs[f]?=some fn) (hb:fn.body=some c) (hm:fn.ntmps=m) (hn:avs.length≤m)
  (h:Sim P f m [.code c] (frOf 0 avs) [] y some fun r a H=>a=en r∧H=[]):Pure P f avs y en:=by
 subst hm
 exact spec_of hf hb hn h
def Fresh1 (P:Program) (g:FuncId) (avs:List AV) {Q:Type} (y:Option Q) (A:Q→Value→AV) (B:Q→Value→List Res):Prop:=∀ r,y=some r→Spec P g avs [] fun a H=>∃ v,a=A r v∧H=B r v
theorem fresh_of {fn:Func} {c:Code} {avs:List AV} {y:Option R} {A:R→Value→AV} {B:R→Value→List Res} {m:Nat} (hf:P.funcs[f]?=some fn) (hb:fn.body=some c) (hm:fn.ntmps=m) (hn:avs.length≤m)
  (h:Sim P f m [.code c] (frOf 0 avs) [] y some fun r a H=>∃ v,a=A r v∧H=B r v):Fresh1 P f avs y A B:=by
 subst hm
 exact spec_of hf hb hn h
theorem G7 {g:FuncId} {args:Array Operand} {ts:Array TypeId} {avs:List AV} {Q:Type} {y:Option Q} {A:Q→Value→AV} {B:Q→Value→List Res} {r:Q} (hg:Ent P g) (hp:Fresh1 P g avs y A B) (hy:y=some r) (ha:ArgsS fr args.toList avs) (hdn:Nat.blt d n=true)
  (h:∀ v,SimL P f n ops l k ((d,A r v)::fr) (B r v++H) x X K):SimL P f n ops (⟨some d,.call ⟨.value (.func g),args,ts⟩,ty,pos,aft,none⟩::l) k fr H x X K :=
 Jc (A:=fun q vs=>A q (vs.headD undef)) (B:=fun q vs=>B q (vs.headD undef)) hg (fun r hr=>by
  intro w F Z vs h1 h2
  refine (hp r hr w F Z vs h1 h2).mono fun e w' ⟨v,he,F',Z',a,H',⟨u,ha,hH⟩,rest⟩=>⟨v,he,F',Z',a,H',⟨[u],ha,hH⟩,rest⟩) hy ha hdn fun vs=>h _
theorem AllP.imp' {Z:Nat→Prop} {w:World} {aS bs:List AV} {vs:List Value} (h:AllP Z w aS vs) {i:Nat} {a b:AV} (hi:aS[i]?=some a) (hab:∀ u,a.p Z w u→b.p Z w u) (hb:aS.set i b=bs):AllP Z w bs vs:=hb ▸ h.imp hi hab
theorem pure_of_fresh {T Q:Type} {g:FuncId} {avs:List AV} {y:Option Q} {A:Q→Value→AV} {B:Q→Value→List Res} {en:Q→AV} {t:TypeId} {c:Co T} (xs:Q→List T) (h:Fresh1 P g avs y A B) (hB:∀ r v,B r v=[.own t c v (xs r)]) (hA:∀ r v Z w u,(A r v).p Z w u→(AV.fsl c (xs r)).p Z w v→(en r).p Z w u):Pure P g avs y en:=by
 intro r hr w F Z vs h1 h2
 refine (h r hr w F Z vs h1 h2).mono fun e w' ⟨v,he,F',Z',a,H',⟨u,ha,hH⟩,hinv,hp⟩=>?_
 subst ha hH
 rw [hB] at hinv
 obtain ⟨G1,h3,hG,hset⟩:=HAll.give (r':=.fz c u (xs r)) (j:=0) rfl hinv.res
 have hzz:∀ b,Z' b→Z' b∨G1 b:=fun _ x=>.inl x
 refine ⟨v,he,fun _=>False,fun b=>Z' b∨G1 b,_,[],⟨rfl,rfl⟩,?_,hA r u _ _ v (AV.st _ hzz (Keep.refl _ _) hp) (own_fsl h3)⟩
 exact hinv.step (F1:=fun _=>False) (Step.refl _ _) (fun _ x=>x.elim) hzz (fun b x=>x.imp id fun y=>.inl (hG b y)) (fun b x=>x.elim) trivial
inductive Elems (fr:Fr) {T:Type} (c:Co T):List (Nat×Operand)→List T→Prop
 | nil:Elems fr c [] []
 | c {i:Nat} {u:Operand} {a:AV} {y:T} {ps:List (Nat×Operand)} {ys:List T}:arg fr u=some a→CellsOf a (c.e y)→Elems fr c ps ys→Elems fr c ((i,u)::ps) (y::ys)
theorem elems_rows {T:Type} {c:Co T} {ps:List (Nat×Operand)} {ys:List T} (h:Elems fr c ps ys) {Z:Nat→Prop} {w:World} {ρ:Operand→Value} (hf:∀ {u:Operand} {a:AV},u ∈ ps.map (·.2)→arg fr u=some a→a.p Z w (ρ u)):Rows c Z w ys ((ps.map fun p=>(ρ p.2).cells.toList).flatten)∧((ps.map fun p=>(ρ p.2).cells.toList).flatten).length=ys.length*c.sz∧∀ p ∈ ps,(ρ p.2).cells.size=c.sz:=by
 induction h with
 | nil=>exact ⟨by intro i x hx;simp at hx,by simp,by simp⟩
 | @c i u a y ps ys hu hc _ ih =>
  obtain ⟨h1,h2,h3⟩:=ih fun hm hx=>hf (by simp at hm ⊢;exact .inr hm) hx
  have hcs:=hc _ _ _ (hf (by simp) hu)
  have hl:(ρ u).cells.toList.length=c.sz:=by rw [← hcs.length,c.len]
  refine ⟨fun q z hz=>?_,by simp only [List.map_cons,List.flatten_cons,List.length_append,hl,h2,List.length_cons,Nat.succ_mul];omega,fun p hp=>?_⟩
  ·cases q with
   | zero =>
    simp at hz;subst hz
    refine ⟨_,hcs,fun q u hq=>?_⟩
    simp only [List.map_cons,List.flatten_cons,Nat.zero_mul,Nat.zero_add]
    rw [List.getElem?_append_left]
    ·exact hq
    ·rcases Nat.lt_or_ge q (ρ _).cells.toList.length with h | h
     ·exact h
     ·rw [List.getElem?_eq_none_iff.2 h] at hq;cases hq
   | succ q =>
    obtain ⟨vs,g1,g2⟩:=h1 q z (by simpa using hz)
    refine ⟨vs,g1,fun r u hr=>?_⟩
    simp only [List.map_cons,List.flatten_cons]
    rw [List.getElem?_append_right (by rw [hl,Nat.succ_mul];omega),hl,← g2 r u hr]
    congr 1;rw [Nat.succ_mul];omega
  ·rcases List.mem_cons.1 hp with rfl | hp
   ·simpa using hl
   ·exact h3 p hp
theorem fill_rows (sz:Nat):∀ (ps:List (Nat×Value)) (i:Nat) (pre:List Value) (post:List Value),ps.map (·.1)=List.range' i ps.length→pre.length=i*sz→post.length=ps.length*sz→(∀ p ∈ ps,p.2.cells.size=sz) →
  Instr.fill (fun q=>some (q*sz,sz)) (pre++post).toArray ps=some (pre++(ps.map fun p=>p.2.cells.toList).flatten).toArray:=by
 intro ps
 induction ps with
 | nil=>intro i pre post h1 h2 h3 h4;simp at h3;subst h3;simp [Instr.fill]
 | cons p ps ih =>
  intro i pre post h1 h2 h3 h4
  obtain ⟨q,v⟩:=p
  simp only [List.map_cons,List.length_cons,List.range'_succ,List.cons.injEq] at h1
  obtain ⟨rfl,h1⟩:=h1
  have hv:v.cells.size=sz:=h4 (q,v) (by simp)
  have hvl:v.cells.toList.length=sz:=by simpa using hv
  simp only [List.length_cons,Nat.succ_mul] at h3
  have hfd:=foldl_splice (pre++post) v.cells.toList (q*sz) (by rw [List.length_append];omega)
  simp only [Array.toArray_toList] at hfd
  have e1:(pre++post).take (q*sz)=pre:=by rw [← h2];simp
  have e2:(pre++post).drop (q*sz+v.cells.toList.length)=post.drop sz:=by
   rw [hvl,← h2,List.drop_append];simp
  rw [e1,e2] at hfd
  have hge:¬ (q*sz+sz > (pre++post).length):=by rw [List.length_append];omega
  simp only [Instr.fill,hv,ne_eq,not_true_eq_false,List.size_toArray,hge,or_self,if_false]
  refine (congrArg (fun z=>Instr.fill _ z ps) hfd).trans ?_
  rw [ih (q+1) (pre++v.cells.toList) (post.drop sz) h1 (by rw [List.length_append,hvl,h2,Nat.succ_mul]) (by rw [List.length_drop];omega) (fun p hp=>h4 p (by simp [hp]))]
  simp
theorem bs_run {T:Type} {c:Co T} {ps:Array (Nat×Operand)} {xs:List T} {z:Value} {m bytes:Nat} (ht:P.underlying t=some (.slice e)) (hs:SizeIs P e c.sz) (hinfo:Info P e z c.sz bytes) (hp:Elems fr c ps.toList xs) (hi:(ps.toList.map (·.1) == List.range' 0 m && Nat.ble (m*c.sz) 16777216)=true)
  {o:Oper} (ho:o.op = .buildSlice t m ps) {w:World} {Z:Nat→Prop} {ρ:Operand→Value} (hf:Rho (.buildSlice t m ps) fr Z w ρ):∃ cs:List Value,(execOp ρ o).run P w = .ok (.value (.slice (some ⟨w.heap.size,0,none⟩) m m)) (w.alloc (.cells cs.toArray e))∧xs.length=m∧cs.length=m*c.sz∧m≤maxLen∧Rows c Z w xs cs:=by
 rw [Bool.and_eq_true,beq_iff_eq,Nat.ble_eq] at hi
 obtain ⟨hix,hmx⟩:=hi
 obtain ⟨g1,g2,g3⟩:=elems_rows hp (ρ:=ρ) (Z:=Z) (w:=w) fun {u a} hm hx=>hf (by simp [Op.operands];simpa using hm) hx
 have hlen:ps.toList.length=m:=by have:=congrArg List.length hix;simpa using this
 have hxl:xs.length=m:=by
  have:∀ {ps:List (Nat×Operand)} {xs:List T},Elems fr c ps xs→xs.length=ps.length:=by
   intro ps xs h
   induction h with
   | nil=>rfl
   | c _ _ _ ih=>simp [ih]
  rw [this hp,hlen]
 obtain ⟨i,i1,i2,i3,i4⟩:=hinfo.parts
 have hm2:¬ (m*c.sz > 2 ^ 24):=by simp only [Nat.reducePow];omega
 generalize hcs:(ps.toList.map fun p=>(ρ p.2).cells.toList).flatten=cs at g1 g2
 have hfill:∀ z0:Array Value,Instr.fill (fun q=>some (q*c.sz,c.sz)) ((Array.range (m*c.sz)).map (z0[· % z0.size]!)) ((ps.map fun p=>(p.1,ρ p.2)).toList)=some cs.toArray:=by
  intro z0
  have:=fill_rows c.sz (ps.toList.map fun p=>(p.1,ρ p.2)) 0 [] ((Array.range (m*c.sz)).map (z0[· % z0.size]!)).toList (by simpa [hlen,Function.comp_def] using hix) (by simp) (by simp [hlen]) (fun p hp=>by
   simp only [List.mem_map] at hp
   obtain ⟨q,hq,rfl⟩:=hp
   exact g3 q hq)
  simp only [List.nil_append,Array.toArray_toList,List.map_map,Function.comp_def,hcs] at this
  simpa using this
 refine ⟨cs,?_,hxl,by rw [g2,hxl],?_,g1⟩
 ·have hf1:∀ z0:Array Value,Instr.fill (fun q=>some (q*c.sz,c.sz)) ((Array.range (m*c.sz)).map (fun x=>z0[x % z0.size]!)) (Array.map (fun x=>(x.fst,ρ x.snd)) ps).toList=some cs.toArray:=hfill
  have h00:¬ (0 > 2 ^ 24):=by decide
  by_cases hz:m*c.sz=0
  ·have:=hf1 #[]
   rw [hz] at this
   simp only [execOp,ho,Instr.buildSlice,Sem.run_bind,run_underlying ht,Result.andThen_ok,hs w,hz,h00,Sem.run_pure,if_true,if_false,this,newRow,newObj,Sem.run]
   rfl
  ·simp only [execOp,ho,Instr.buildSlice,Sem.run_bind,run_underlying ht,Result.andThen_ok,hs w,hm2,hz,Sem.run_pure,if_false,zeroValue,typeInfo,i1,i2,program,Sem.run,hf1,newRow,newObj]
   rfl
 ·have:m*1≤m*c.sz:=Nat.mul_le_mul_left _ c.pos
  rw [mx];omega
theorem dBS {T:Type} {c:Co T} {ps:Array (Nat×Operand)} {xs:List T} {z:Value} {m bytes:Nat} (ht:P.underlying t=some (.slice e)) (hs:SizeIs P e c.sz) (hinfo:Info P e z c.sz bytes) (hp:Elems fr c ps.toList xs) (hi:(ps.toList.map (·.1) == List.range' 0 m && Nat.ble (m*c.sz) 16777216)=true):D P n H (.buildSlice t m ps) ty fr (.fsl c xs):=by
 intro o ho hty w0 F0 Z0 w F Z tmps hn hinv hf
 obtain ⟨cs,hr,hxl,hcl,hmm,g1⟩:=bs_run ht hs hinfo hp hi ho (ρ:=(⟨tmps,[]⟩:Act).eval) (Z:=Z) fun hm hx=>arg_ok hf hx hm
 have s:=Step.alloc w (.cells cs.toArray e) (fun _=>False)
 refine .inl ⟨_,_,hr,fun b=>Z b∨b=w.heap.size,fun _ x=>.inl x,fun b x=>x.imp id fun e=>by subst e;exact ⟨Nat.le_refl _,by simp⟩,s,?_⟩
 have hown:(Res.own e c (.slice (some ⟨w.heap.size,0,none⟩) m m) xs).h Z (w.alloc (.cells cs.toArray e)) (fun b=>b=w.heap.size):=by
  refine .inl ⟨cs,⟨by rw [hxl,hcl],.inr ⟨w.heap.size,m,cs.toArray,by rw [hxl],Nat.zero_le _,.new (heap_alloc_new w _),by rw [hxl];exact Nat.le_refl _,hmm,by simp [hcl],?_⟩⟩,fun b hb=>?_,?_⟩
  ·rw [hxl];exact List.take_of_length_le (by simp [hcl])
  ·simp [Value.ownBlock] at hb;exact hb.symm
  ·exact g1.st (fun _ x=>x) (s.keep' hinv)
 exact own_fsl hown
theorem fb {T:Type} {c:Co T} {z:Value} {bytes:Nat} (ht:P.underlying t=some (.slice e)) (hs:SizeIs P e c.sz) (hinfo:Info P e z c.sz bytes):D P n H (.buildSlice t 0 #[]) ty fr .es:=by
 intro o ho hty w0 F0 Z0 w F Z tmps hn hinv hf
 obtain ⟨cs,hr,hxl,hcl,hmm,g1⟩:=bs_run (c:=c) (xs:=[]) (ps:=#[]) (m:=0) (fr:=fr) ht hs hinfo .nil (by simp) ho (ρ:=(⟨tmps,[]⟩:Act).eval) (w:=w) (Z:=Z) fun hm hx=>arg_ok hf hx hm
 refine .inl ⟨_,_,hr,fun b=>Z b∨b=w.heap.size,fun _ x=>.inl x,fun b x=>x.imp id fun e=>by subst e;exact ⟨Nat.le_refl _,by simp⟩,Step.alloc w (.cells cs.toArray e) (fun _=>False),_,rfl⟩
variable {y z:Operand} {s u:ByteArray}
theorem bytes_beq (s u:ByteArray):(s == u)=decide (s=u):=by
 cases s with
 | mk a=>cases u with
  | mk b =>
   show (a == b)=_
   rw [Bool.eq_iff_iff];simp
theorem bytes_beq' (s u:ByteArray):(s.toList == u.toList)=decide (s=u):=by rw [← beq_toListBytes,bytes_beq]
theorem ke (hy:arg fr y=some (.lit (.string s))) (hz:arg fr z=some (.lit (.string u))):D P n H (.binOp .eql t y z t') ty fr (Ab (decide (s=u))) :=
 .of fun o ho hty w Z F ρ _ hf=>by
  have e1:ρ y=_:=hf (by simp [Op.operands]) hy
  have e2:ρ z=_:=hf (by simp [Op.operands]) hz
  exact ⟨.bool (decide (s=u)),by simp [execOp,ho,e1,e2,eqGuard_at_string,binOp,Op.stringOp,Sem.run_bind,bytes_beq'],rfl⟩
end
end S
namespace S
open Go.RowKit Go.ChangeShapes Go.WideShapes
set_option linter.unusedVariables false
set_option linter.unusedSimpArgs false
section
variable {H:Type} {enc:TypeId×Value→H} {P:Program} {W:World}
def Zof (W:World) (b:Nat):Prop:=b<W.heap.size
def Fits {H:Type} (P:Program) (t:TypeId) (d:DataW H):Prop:=(d.weights P t).all (·≤reachBytes)=true
def Opn {T:Type} (enc:TypeId×Value→H) (P:Program) (W:World) (t:TypeId) (c:Co T) (wf:T→Prop):Prop :=
 ∀ (n:Nat) (cs:List Value) (x:DataW H×List MemPlace),DataW.trod enc P W 0 (fun _=>true) true n t cs=some x→Fits P t x.1→∃ v,AllP (Zof W) W (c.e v) cs∧wf v
def wfI (k:IntKind) (n:Int):Prop:=(Lit.int k n).wf=true
def wfB (_:Bool):Prop:=True
def wfS (s:ByteArray):Prop:=s.size≤reachBytes
def wfL {T:Type} (wf:T→Prop) (bytes:Nat) (xs:List T):Prop:=xs.length*bytes≤reachBytes∧∀ x ∈ xs,wf x
theorem opI {t:TypeId} {k:IntKind} (ht:P.underlying t=some (.int k)):Opn enc P W t (cI k) (wfI k):=fun n cs x h _=>by
 obtain ⟨m,rfl,_,hw⟩:=DataW.trod_int ht h
 exact ⟨m,.cons rfl .nil,hw⟩
theorem opB {t:TypeId} (ht:P.underlying t=some .bool):Opn enc P W t cB wfB:=fun n cs x h _=>by
 cases n with
 | zero=>simp [DataW.trod] at h
 | succ n =>
  unfold DataW.trod at h
  rw [ht] at h
  split at h <;> first | (rename_i b _;exact ⟨b,.cons rfl .nil,trivial⟩) | simp_all
theorem cell_lt {w:World} {a:Addr} {u:Value} (h:w.cell? a=some u):a.block<w.heap.size:=by
 rcases Nat.lt_or_ge a.block w.heap.size with hl | hl
 ·exact hl
 ·exfalso
  unfold World.cell? at h
  rw [Array.getElem?_eq_none hl] at h
  simp at h
theorem list_of {T:Type} {p:Nat→T→Prop}:∀ len,(∀ i,i<len→∃ v,p i v)→∃ xs:List T,xs.length=len∧∀ i x,xs[i]?=some x→p i x:=by
 intro len
 induction len with
 | zero=>intro _;exact ⟨[],rfl,by simp⟩
 | succ len ih =>
  intro hel
  obtain ⟨xs,h1,h2⟩:=ih fun i hi=>hel i (by omega)
  obtain ⟨v,hv⟩:=hel len (by omega)
  refine ⟨xs++[v],by simp [h1],fun i x hx=>?_⟩
  rw [List.getElem?_append] at hx
  split at hx
  ·exact h2 i x hx
  ·have:i=len:=by
    rcases Nat.eq_zero_or_pos (i-xs.length) with h | h
    ·omega
    ·rw [List.getElem?_eq_none (by simp;omega)] at hx;cases hx
   subst this
   simp [h1] at hx
   subst hx;exact hv
theorem weightsAll_mem {e:TypeId} {ds:List (DataW H)} (h:∀ q ∈ DataW.weightsAll P e ds,q≤reachBytes):∀ d ∈ ds,Fits P e d:=by
 induction ds with
 | nil=>simp
 | cons d ds ih =>
  intro y hy
  simp only [DataW.weightsAll,List.mem_append] at h
  rcases List.mem_cons.1 hy with rfl | hy
  ·simp only [Fits,List.all_eq_true,decide_eq_true_eq]
   exact fun q hq=>h q (.inl hq)
  ·exact ih (fun q hq=>h q (.inr hq)) y hy
theorem weightsEach_get {ts:List TypeId} {ds:List (DataW H)} (h:∀ q ∈ DataW.weightsEach P ts ds,q≤reachBytes):∀ (i:Nat) (t:TypeId) (d:DataW H),ts[i]?=some t→ds[i]?=some d→Fits P t d:=by
 induction ts generalizing ds with
 | nil=>intro i t d ht;simp at ht
 | cons t ts ih =>
  intro i t' d' ht hd
  cases ds with
  | nil=>simp at hd
  | cons d ds =>
   simp only [DataW.weightsEach,List.mem_append] at h
   cases i with
   | zero =>
    simp at ht hd;subst ht hd
    simp only [Fits,List.all_eq_true,decide_eq_true_eq]
    exact fun q hq=>h q (.inl hq)
   | succ i=>exact ih (fun q hq=>h q (.inr hq)) i t' d' (by simpa using ht) (by simpa using hd)
theorem AllP.piece {Z:Nat→Prop} {w:World} {az bs:List AV} {cs:List Value} {off s:Nat} (h1:AllP Z w az ((cs.drop off).take s)) (h2:AllP Z w bs (cs.drop (off+s))):AllP Z w (az++bs) (cs.drop off):=by
 have:cs.drop off=(cs.drop off).take s++cs.drop (off+s):=by rw [← List.drop_drop,List.take_append_drop]
 rw [this]
 exact h1.append h2
theorem AllP.stop {Z:Nat→Prop} {w:World} {cs:List Value} {n:Nat} (h:cs.length=n):AllP Z w [] (cs.drop n):=by
 rw [List.drop_eq_nil_of_le (by omega)];exact .nil
def ArgOk {T:Type} (enc:TypeId×Value→H) (P:Program) (W:World) (t:TypeId) (av:T→AV) (wf:T→Prop):Prop :=
 ∀ (r:Reach) (b0:Nat) (v:Value) (d:DataW H) (ps:List MemPlace),Value.okWide P W r b0 t v→DataW.Trod enc P W 0 (fun _=>true) true t v d ps→Fits P t d→∃ x,(av x).p (Zof W) W v∧wf x
inductive ArgsOk (enc:TypeId×Value→H) (P:Program) (W:World):List TypeId→(List AV→Prop)→Prop
 | nil {Q:List AV→Prop}:Q []→ArgsOk enc P W [] Q
 | cons {T:Type} {t:TypeId} {ts:List TypeId} {av:T→AV} {wf:T→Prop} {Q:List AV→Prop}:ArgOk enc P W t av wf→(∀ x,wf x→ArgsOk enc P W ts fun az=>Q (av x::az))→ArgsOk enc P W (t::ts) Q
theorem ArgsOk.get {ts:List TypeId} {Q:List AV→Prop} (h:ArgsOk enc P W ts Q):∀ {vs:List Value} {ds:List (DataW H)} {ps:List MemPlace} {r:Reach} {b0:Nat},DataW.TrodAll enc P W 0 (fun _=>true) true ts vs ds ps→(∀ (j:Nat) t v,ts[j]?=some t→vs[j]?=some v→Value.okWide P W r b0 t v)→(∀ q ∈ DataW.weightsEach P ts ds,q≤reachBytes)→∃ az,AllP (Zof W) W az vs∧Q az:=by
 induction h with
 | nil hq =>
  intro vs ds ps r b0 ht _ _
  match vs,ds,ht with
  | [],[],_=>exact ⟨[],.nil,hq⟩
 | @cons T t ts av wf Q ha _ ih =>
  intro vs ds ps r b0 ht hv hw
  match vs,ds,ht with
  | v::vs,d::ds,⟨p,q,h1,h2,_⟩ =>
   obtain ⟨x,hx,hwf⟩:=ha r b0 v d p (hv 0 t v rfl rfl) h1 (weightsEach_get hw 0 t d rfl rfl)
   obtain ⟨az,h3,h4⟩:=ih x hwf h2 (fun j t v h h'=>hv (j+1) t v (by simpa using h) (by simpa using h')) (fun q hq=>hw q (by simp only [DataW.weightsEach,List.mem_append];exact .inr hq))
   exact ⟨_,.cons hx h3,h4⟩
theorem trodAll_same {W':World} (hk:∀ b,b<W.heap.size→W'.heap[b]?=W.heap[b]?):∀ {ts:List TypeId} {vs:List Value} {ds:List (DataW H)} {ps:List MemPlace},DataW.TrodAll enc P W 0 (fun _=>true) true ts vs ds ps→DataW.TrodAll enc P W' 0 (fun _=>true) true ts vs ds ps
 | [],[],[],_,h=>h
 | _::_,_::_,_::_,_,⟨p,q,⟨n,h1⟩,h2,e⟩=>⟨p,q,⟨n,DataW.trod_carry n _ _ _ h1 fun x hx=>by
   have hlt:=DataW.trod_lt n _ _ _ h1 x hx
   cases x with
   | cell b o=>exact World.cell?_of_block (w:=W) (hk b hlt)
   | map b=>exact hk b hlt⟩,trodAll_same hk h2,e⟩
theorem trodAll_lt:∀ {ts:List TypeId} {vs:List Value} {ds:List (DataW H)} {ps:List MemPlace},DataW.TrodAll enc P W 0 (fun _=>true) true ts vs ds ps→∀ p ∈ ps,p.block<W.heap.size
 | [],[],[],_,h,p,hp=>by simp [DataW.TrodAll] at h;subst h;cases hp
 | _::_,_::_,_::_,_,⟨p,q,⟨n,h1⟩,h2,e⟩,x,hx=>by
  subst e
  rcases List.mem_append.1 hx with hx | hx
  ·exact DataW.trod_lt n _ _ _ h1 x hx
  ·exact trodAll_lt h2 x hx
theorem trodAll_len:∀ {ts:List TypeId} {vs:List Value} {ds:List (DataW H)} {ps:List MemPlace},DataW.TrodAll enc P W 0 (fun _=>true) true ts vs ds ps→ds.length=ts.length
 | [],[],[],_,h=>rfl
 | _::_,_::_,_::_,_,⟨p,q,_,h2,e⟩=>congrArg (·+1) (trodAll_len h2)
end
end S
namespace S
open Go.RowKit Go.ChangeShapes Go.WideShapes
set_option linter.unusedVariables false
set_option linter.unusedSimpArgs false
section
variable {H:Type} {enc:TypeId×Value→H} {P:Program} {W:World}
theorem bulk_pos (d:DataW H):1≤Rows.uptoBulk d:=by
 cases d with
 | lit l=>cases l <;> simp [Rows.uptoBulk]
 | nil=>simp [Rows.uptoBulk]
 | ptr d=>simp [Rows.uptoBulk]
 | slice elems spare=>simp [Rows.uptoBulk]
 | agg parts=>simp [Rows.uptoBulk]
 | iface t d=>simp [Rows.uptoBulk]
 | map entries=>simp [Rows.uptoBulk]
 | held h=>simp [Rows.uptoBulk]
def OpnU {T:Type} (enc:TypeId×Value→H) (P:Program) (W:World) (t:TypeId) (c:Co T) (wf:T→Prop) (mu:T→Nat):Prop :=
 ∀ (n:Nat) (cs:List Value) (x:DataW H×List MemPlace),DataW.trod enc P W 0 (fun _=>true) true n t cs=some x→Fits P t x.1→∃ v,AllP (Zof W) W (c.e v) cs∧wf v∧mu v≤Rows.uptoBulk x.1
def muI (_:Int):Nat:=1
def muB (_:Bool):Nat:=1
def muS (s:ByteArray):Nat:=s.size+1
def muL {T:Type} (mu:T→Nat) (xs:List T):Nat:=(xs.map mu).sum+1
theorem ouI {t:TypeId} {k:IntKind} (ht:P.underlying t=some (.int k)):OpnU enc P W t (cI k) (wfI k) muI:=fun n cs x h hw=>by
 obtain ⟨v,h1,h2⟩:=opI ht n cs x h hw
 exact ⟨v,h1,h2,bulk_pos _⟩
theorem ouB {t:TypeId} (ht:P.underlying t=some .bool):OpnU enc P W t cB wfB muB:=fun n cs x h hw=>by
 obtain ⟨v,h1,h2⟩:=opB ht n cs x h hw
 exact ⟨v,h1,h2,bulk_pos _⟩
theorem ouS {t:TypeId} (ht:P.underlying t=some .string):OpnU enc P W t cS wfS muS:=fun n cs x h hw=>by
 cases n with
 | zero=>simp [DataW.trod] at h
 | succ n =>
  unfold DataW.trod at h
  rw [ht] at h
  split at h <;> first | (rename_i s _;split at h;simp only [Option.some.injEq] at h;subst h;exact ⟨s,.cons rfl .nil,(by simpa [Fits,DataW.weights,wfS] using hw),(by simp [muS,Rows.uptoBulk])⟩;cases h) | simp_all
theorem sum_bulk {T:Type} {mu:T→Nat}:∀ {xs:List T} {ds:List (DataW H)},xs.length=ds.length→(∀ (i:Nat) x d,xs[i]?=some x→ds[i]?=some d→mu x≤Rows.uptoBulk d)→(xs.map mu).sum≤Rows.uptoBulkAll ds
 | [],[],_,_=>by simp [Rows.uptoBulkAll]
 | x::xs,d::ds,hl,h=>by
  have h0:=h 0 x d rfl rfl
  have:=sum_bulk (xs:=xs) (ds:=ds) (by simpa using hl) fun i x d hx hd=>h (i+1) x d (by simpa using hx) (by simpa using hd)
  simp only [List.map_cons,List.sum_cons,Rows.uptoBulkAll]
  omega
theorem ouL {T:Type} {t e:TypeId} {c:Co T} {wf:T→Prop} {mu:T→Nat} {bytes:Nat} (ht:P.underlying t=some (.slice e)) (hs:P.cellsOf e=c.sz) (hb:P.bytesOf e=bytes) (ho:OpnU enc P W e c wf mu):OpnU enc P W t (cL c) (wfL wf bytes) (muL mu):=fun n cs x h hw=>by
 rcases Deep.open_slice ht h with ⟨rfl,rfl⟩ | ⟨a,len,cap,m,k,D,Pl,rfl,_,hl,hm,hmm,rfl,hx⟩
 ·exact ⟨[],.cons ⟨none,0,rfl,Nat.le_refl _,fun i x hx=>by simp at hx⟩ .nil,⟨by simp,by simp⟩,by simpa [muL] using bulk_pos _⟩
 ·simp only [if_true] at hmm
  subst hmm
  simp only [Fits,List.all_eq_true,decide_eq_true_eq,DataW.weights,ht,List.mem_cons,List.mem_append,List.length_map,List.length_range] at hw
  have hfit:∀ i,i<len→Fits P e (D i):=fun i hi=>weightsAll_mem (fun q hq=>hw q (.inr (.inl hq))) _ (List.mem_map.2 ⟨i,List.mem_range.2 hi,rfl⟩)
  have hel:∀ i,i<len→∃ v,At (Zof W) W (a.add (i*c.sz)) (c.e v)∧a.block<W.heap.size∧wf v∧mu v≤Rows.uptoBulk (D i):=fun i hi=>by
   obtain ⟨cs',h1,h2⟩:=hx i (by omega)
   obtain ⟨v,h3,h4,h5⟩:=ho k cs' _ h2 (hfit i hi)
   rw [hs] at h1
   obtain ⟨_,hlen,hcell⟩:=World.cells?_some h1
   have hpos:=c.pos
   refine ⟨v,⟨cs',h3,fun j u hu=>?_⟩,?_,h4,h5⟩
   ·have:j<c.sz:=by
     rcases Nat.lt_or_ge j cs'.length with h | h
     ·omega
     ·simp [h] at hu
    rw [hcell j this,hu]
   ·have:=hcell 0 hpos
    rw [List.getElem?_eq_getElem (by omega)] at this
    have hb:=cell_lt this
    rwa [add_block,add_block] at hb
  obtain ⟨xs,hxl,hxs⟩:=list_of len hel
  subst hxl
  refine ⟨xs,.cons ⟨some a,_,rfl,hl,fun i x hi=>⟨a,rfl,(hxs i x hi).2.1,(hxs i x hi).1⟩⟩ .nil,⟨?_,fun x hx=>?_⟩,?_⟩
  ·have:=hw _ (.inl rfl)
   rw [hb] at this
   exact Nat.le_trans (Nat.mul_le_mul_right _ (by omega)) this
  ·obtain ⟨i,hi⟩:=List.getElem?_of_mem hx
   exact (hxs i x hi).2.2.1
  ·have:=sum_bulk (mu:=mu) (xs:=xs) (ds:=(List.range xs.length).map D) (by simp) fun i x d hx hd=>by
    have h1:=(hxs i x hx).2.2.2
    rw [List.getElem?_map,List.getElem?_range] at hd
    ·simp only [Option.map_some,Option.some.injEq] at hd
     rw [← hd];exact h1
    ·exact (List.getElem?_eq_some_iff.1 hx).1
   simp only [muL,Rows.uptoBulk]
   omega
theorem struct_partsU {t:TypeId} {fs:Array Field} {n:Nat} {cs:List Value} {x:DataW H×List MemPlace} (ht:P.underlying t=some (.struct fs)) (h:DataW.trod enc P W 0 (fun _=>true) true n t cs=some x) (hw:Fits P t x.1) :
  cs.length=P.cellsOf t∧∃ m ys,ys.length=fs.size∧x.1 = .agg ys∧∀ (i:Nat) (f:Field),fs[i]?=some f→∃ y,DataW.trod enc P W 0 (fun _=>true) true m f.type ((cs.drop f.offset).take (P.cellsOf f.type))=some y∧Fits P f.type y.1∧ys[i]?=some y.1:=by
 obtain ⟨xs,m,rfl,rfl,hl,hx,hf⟩:=DataW.trod_struct ht h
 refine ⟨hl,m,xs.map (·.1),by simpa using hx,rfl,fun i f hi=>?_⟩
 have hi':i<xs.length:=by
  rw [hx]
  rcases Nat.lt_or_ge i fs.size with h | h
  ·exact h
  ·simp [h] at hi
 refine ⟨xs[i],by rw [hf i f hi];simp [hi'],?_,by simp [hi']⟩
 simp only [Fits,List.all_eq_true,decide_eq_true_eq,DataW.weights,ht] at hw
 exact weightsEach_get hw i f.type xs[i].1 (by simp [hi]) (by simp [hi'])
theorem struct_getU {T:Type} {c:Co T} {wf:T→Prop} {mu:T→Nat} {fs:Array Field} {m:Nat} {cs:List Value} {ys:List (DataW H)} (hf:∀ (i:Nat) (f:Field),fs[i]?=some f→∃ y:DataW H×List MemPlace,DataW.trod enc P W 0 (fun _=>true) true m f.type ((cs.drop f.offset).take (P.cellsOf f.type))=some y∧Fits P f.type y.1∧ys[i]?=some y.1)
  (i:Nat) {f:Field} {off ft s:Nat} (h1:fs[i]?=some f) (h2:f.offset=off) (h3:f.type=ft) (h4:P.cellsOf ft=s) (ho:OpnU enc P W ft c wf mu):∃ v d,AllP (Zof W) W (c.e v) ((cs.drop off).take s)∧wf v∧ys[i]?=some d∧mu v≤Rows.uptoBulk d:=by
 obtain ⟨y,g1,g2,g3⟩:=hf i f h1
 rw [h2,h3,h4] at g1
 rw [h3] at g2
 obtain ⟨v,q1,q2,q3⟩:=ho m _ y g1 g2
 exact ⟨v,y.1,q1,q2,g3,q3⟩
theorem bulk_from {ys:List (DataW H)} {k:Nat} (i:Nat) {d:DataW H} (h:ys[i]?=some d) (hr:k≤Rows.uptoBulkAll (ys.drop (i+1))) {q:Nat} (hq:q≤Rows.uptoBulk d):q+k≤Rows.uptoBulkAll (ys.drop i):=by
 obtain ⟨hi,rfl⟩:=List.getElem?_eq_some_iff.1 h
 rw [List.drop_eq_getElem_cons hi]
 simp only [Rows.uptoBulkAll]
 omega
theorem bulk_agg {ys:List (DataW H)} {k:Nat} {x:DataW H} (hx:x = .agg ys) (h:k≤Rows.uptoBulkAll (ys.drop 0)):k+1≤Rows.uptoBulk x:=by
 subst hx
 simpa [Rows.uptoBulk] using h
def ArgOkU {T:Type} (enc:TypeId×Value→H) (P:Program) (W:World) (t:TypeId) (av:T→AV) (wf:T→Prop) (mu:T→Nat):Prop :=
 ∀ (r:Reach) (b0:Nat) (v:Value) (d:DataW H) (ps:List MemPlace),Value.okWide P W r b0 t v→DataW.Trod enc P W 0 (fun _=>true) true t v d ps→Fits P t d→∃ x,(av x).p (Zof W) W v∧wf x∧mu x≤Rows.uptoBulk d
theorem arguL {T:Type} {t e:TypeId} {c:Co T} {wf:T→Prop} {mu:T→Nat} {bytes:Nat} (ht:P.underlying t=some (.slice e)) (hs:P.cellsOf e=c.sz) (hb:P.bytesOf e=bytes) (ho:OpnU enc P W e c wf mu):ArgOkU enc P W t (fun xs=>.fsl c xs) (wfL wf bytes) (muL mu):=fun r b0 v d ps hv hd hw=>by
 obtain ⟨n,hd⟩:=hd
 obtain ⟨xs,h1,h2⟩:=ouL ht hs hb ho n _ _ hd hw
 refine ⟨xs,?_,h2⟩
 have hcell:Cell.okWide P W r b0 t v:=by simpa [Value.okWide,ht] using hv
 have hv1:v.cells=#[v]:=by
  cases v <;> first | rfl | simp [Cell.okWide,Cell.ok,ht] at hcell
 rw [hv1] at h1
 cases h1 with
 | cons h1 _=>exact h1
theorem arguA {T:Type} {t:TypeId} {c:Co T} {wf:T→Prop} {mu:T→Nat} {fs:Array Field} (ht:P.underlying t=some (.struct fs)) (ho:OpnU enc P W t c wf mu):ArgOkU enc P W t (fun x=>.agg (c.e x)) wf mu:=fun r b0 v d ps hv hd hw=>by
 obtain ⟨n,hd⟩:=hd
 obtain ⟨x,h1,h2⟩:=ho n _ _ hd hw
 simp only [Value.okWide,ht] at hv
 obtain ⟨cs,rfl,_⟩:=hv
 exact ⟨x,⟨cs.toList,rfl,h1⟩,h2⟩
inductive ArgsOkU (enc:TypeId×Value→H) (P:Program) (W:World) (B:Nat):List TypeId→(List AV→Prop)→Prop
 | nil {Q:List AV→Prop}:Q []→ArgsOkU enc P W B [] Q
 | cons {T:Type} {t:TypeId} {ts:List TypeId} {av:T→AV} {wf:T→Prop} {mu:T→Nat} {Q:List AV→Prop}:ArgOkU enc P W t av wf mu→(∀ x,wf x→mu x≤B→ArgsOkU enc P W B ts fun az=>Q (av x::az))→ArgsOkU enc P W B (t::ts) Q
theorem ArgsOkU.get {B:Nat} {ts:List TypeId} {Q:List AV→Prop} (h:ArgsOkU enc P W B ts Q):∀ {vs:List Value} {ds:List (DataW H)} {ps:List MemPlace} {r:Reach} {b0:Nat},DataW.TrodAll enc P W 0 (fun _=>true) true ts vs ds ps→(∀ (j:Nat) t v,ts[j]?=some t→vs[j]?=some v→Value.okWide P W r b0 t v)→(∀ q ∈ DataW.weightsEach P ts ds,q≤reachBytes)→Rows.uptoBulkAll ds≤B→∃ az,AllP (Zof W) W az vs∧Q az:=by
 induction h with
 | nil hq =>
  intro vs ds ps r b0 ht _ _ _
  match vs,ds,ht with
  | [],[],_=>exact ⟨[],.nil,hq⟩
 | @cons T t ts av wf mu Q ha _ ih =>
  intro vs ds ps r b0 ht hv hw hB
  match vs,ds,ht with
  | v::vs,d::ds,⟨p,q,h1,h2,_⟩ =>
   simp only [Rows.uptoBulkAll] at hB
   obtain ⟨x,hx,hwf,hmu⟩:=ha r b0 v d p (hv 0 t v rfl rfl) h1 (weightsEach_get hw 0 t d rfl rfl)
   obtain ⟨az,h3,h4⟩:=ih x hwf (by omega) h2 (fun j t v h h'=>hv (j+1) t v (by simpa using h) (by simpa using h')) (fun q hq=>hw q (by simp only [DataW.weightsEach,List.mem_append];exact .inr hq)) (by omega)
   exact ⟨_,.cons hx h3,h4⟩
theorem bulk_app (l r:List (DataW H)):Rows.uptoBulkAll (l++r)=Rows.uptoBulkAll l+Rows.uptoBulkAll r:=by
 induction l with
 | nil=>simp [Rows.uptoBulkAll]
 | cons x l ih=>simp only [List.cons_append,Rows.uptoBulkAll,ih];omega
theorem law_postU {f:FuncId} {fn:Func} {s:ChangeSpec} {tb:TypeId} (K:Kids P (·<P.types.size)) (hz:∀ t e,t<P.types.size→P.underlying t=some (.slice e)→0<P.cellsOf e) (hp:∀ t ∈ fn.params.toList,t<P.types.size)
  (hr:fn.resultTypes=#[tb]) (hb:P.underlying tb=some .bool) (hv:s.vars=[]) (hfn:∀ ds:List (DataW H),ds.length=fn.params.toList.length→s.fn H (ds++[])=⟨[.lit (.bool true)],ds,[]⟩)
  {base:Nat} {args:Array Value} {ds gs:List (DataW H)} {before:List MemPlace} (hval:∀ (j:Nat) t v,fn.params[j]?=some t→args[j]?=some v→Value.okWide P W .any base t v) (hW:DataW.Whole enc P fn.params.toList s.vars false W args.toList ds gs before)
  (hsz:(DataW.weightsEach P (fn.params.toList++s.plain.varTypes P) (ds++gs)).all (·≤reachBytes)=true) {B:Nat} (hB:Rows.uptoBulkAll (ds++gs)≤B)
  (main:ArgsOkU enc P W B fn.params.toList fun az=>Spec P f az [] fun a H=>a=Ab true∧H=[]):Calls P f args W fun e W'=>∃ v,e = .returned v∧s.post enc P fn false true false false W args v W':=by
 have hW':=hW
 obtain ⟨p,q,hA,hV,rfl,hfz,hnd⟩:=hW
 have hsz':∀ q ∈ DataW.weightsEach P fn.params.toList ds,q≤reachBytes:=by
  simp only [List.all_eq_true,decide_eq_true_eq] at hsz
  have hvt:s.plain.varTypes P=[]:=by simp [DataSpec.varTypes,ChangeSpec.plain,hv]
  rw [hv] at hV
  obtain ⟨rfl,rfl⟩:=trodVars_none hV
  rw [hvt,List.append_nil,List.append_nil] at hsz
  exact hsz
 rw [bulk_app] at hB
 obtain ⟨az,h1,h2⟩:=main.get hA (r:=.any) (b0:=base) (fun j t v h h'=>hval j t v (by simpa using h) (by simpa using h')) hsz' (by omega)
 rw [hv] at hV
 obtain ⟨rfl,rfl⟩:=trodVars_none hV
 have hlen:ds.length=fn.params.toList.length:=trodAll_len hA
 have hc:=h2 W (fun _=>False) (Zof W) args.toList h1 ⟨Base.refl _ _,fun _ h=>h,fun b h=>⟨h,.inl h⟩,fun b h=>h.elim,trivial⟩
 rw [Array.toArray_toList] at hc
 refine hc.mono fun e W' ⟨v,he,F,Z,a,H',⟨ha,hH'⟩,hi,hav⟩=>⟨v,he,?_⟩
 subst ha
 have hk:∀ b,b<W.heap.size→W'.heap[b]?=W.heap[b]?:=fun b h=>hi.base.keep b h (fun h=>h)
 have hv':v = .bool true:=hav
 subst hv'
 have hall:=trodAll_same hk hA
 refine ⟨ds,[],p++[],[],p,[],hW',?_,?_,?_,?_,fun h=>by cases h⟩
 ·rw [hfn ds hlen,hr]
  exact trodAll_mk1 (shut_bool hb _)
 ·rw [hfn ds hlen]
  exact DataW.TrodAll.respare K hz hp hall fun x hx=>by simpa using trodAll_lt hA x hx
 ·rw [hfn ds hlen,hv];rfl
 ·refine ⟨hi.base.os,hi.base.output,fun i hi'=>?_⟩
  rw [hk i hi']
  split <;> simp_all
end
end S
namespace S
open Go.RowKit
set_option linter.unusedVariables false
set_option linter.unusedSimpArgs false
set_option exponentiation.threshold 3000
section
open Ieee
end
section
variable {P:Program} {n:Nat} {fr:Fr} {H:List Res} {t t' t'' ty e:TypeId} {x y:Operand}
end
section
variable {P:Program} {w:World}
theorem eqF_step {d:Nat} {xs ys:Array Value} {f:Field} {fs:List Field} {a b:Value} {r:Bool} (hn:f.name ≠ "_") (hx:(part f.type xs f.offset).run P w = .ok a w) (hy:(part f.type ys f.offset).run P w = .ok b w) (he:(Op.equalIn d f.type a b).run P w = .ok r w) :
  (Op.eqFields d xs ys (f::fs)).run P w=if r=true then (Op.eqFields d xs ys fs).run P w else .ok false w:=by
 simp only [Op.eqFields,if_pos hn,Sem.run_bind,hx,hy,he,Result.andThen_ok,Sem.run_ite,Sem.run_pure]
 cases r <;> simp
theorem eqF_int {d:Nat} {xs ys:List Value} {f:Field} {fs:List Field} {k k':IntKind} {a b:Int} (hn:f.name ≠ "_") (hg:IsAgg P f.type false) (ht:P.underlying f.type=some (.int k')) (hx:xs[f.offset]?=some (.int k a)) (hy:ys[f.offset]?=some (.int k b)) :
  (Op.eqFields (d+1) xs.toArray ys.toArray (f::fs)).run P w=if a=b then (Op.eqFields (d+1) xs.toArray ys.toArray fs).run P w else .ok false w:=by
 rw [eqF_step hn (part_one hg hx) (part_one hg hy) (run_equalIn_int w d _ _ _ _ _ ht)]
 simp
theorem eqF_agg {d k:Nat} {xs ys:List Value} {f:Field} {fs:List Field} {us vs:List Value} {p:Prop} [Decidable p] (hn:f.name ≠ "_") (hg:IsAgg P f.type true) (hs:SizeIs P f.type k) (hx:(xs.drop f.offset).take k=us) (hy:(ys.drop f.offset).take k=vs) (he:(Op.equalIn d f.type (.agg us.toArray) (.agg vs.toArray)).run P w = .ok (decide p) w) :
  (Op.eqFields d xs.toArray ys.toArray (f::fs)).run P w=if p then (Op.eqFields d xs.toArray ys.toArray fs).run P w else .ok false w:=by
 subst hx hy
 rw [eqF_step hn (part_agg hg hs) (part_agg hg hs) he]
 simp
theorem eqF_nil {d:Nat} {xs ys:Array Value}:(Op.eqFields d xs ys []).run P w = .ok (decide True) w:=by simp [Op.eqFields]
theorem ok_ite {p:Prop} [Decidable p] {q:Prop} [Decidable q]:(if p then (Result.ok (decide q) w:Result Bool) else .ok false w) = .ok (decide (p∧q)) w:=by
 by_cases hp:p <;> simp [hp]
theorem allp_lits {Z:Nat→Prop}:∀ {vs us:List Value},AllP Z w (vs.map AV.lit) us→us=vs
 | [],_,.nil=>rfl
 | v::vs,_,.cons h hs=>by rw [show _=v from h,allp_lits hs]
variable {n:Nat} {fr:Fr} {H:List Res} {t t' ty:TypeId} {a b:Operand}
theorem je {T:Type} [DecidableEq T] {c:Co T} {x y:T} (vs:T→List Value) (hm:P.eqGuardType P.depth t=false) (hv:∀ x,c.e x=(vs x).map AV.lit) (he:∀ w x y,(Op.equalIn 10000 t (.agg (vs x).toArray) (.agg (vs y).toArray)).run P w = .ok (decide (x=y)) w) (hx:arg fr a=some (.agg (c.e x))) (hy:arg fr b=some (.agg (c.e y))):D P n H (.binOp .eql t a b t') ty fr (Ab (decide (x=y))) :=
 .of fun o ho hty w Z F ρ _ hf=>by
  obtain ⟨us,e1,h1⟩:=hf (by simp [Op.operands]) hx
  obtain ⟨ws,e2,h2⟩:=hf (by simp [Op.operands]) hy
  rw [hv] at h1 h2
  have:=allp_lits h1
  subst this
  have:=allp_lits h2
  subst this
  exact ⟨.bool (decide (x=y)),by simp only [execOp,ho,e1,e2,Sem.run_bind,run_eqGuard_agg w _ _ _ _ _ _ hm,Result.andThen_ok,run_eql_struct,he,Sem.run_pure],rfl⟩
theorem fc {T:Type} [DecidableEq T] {c:Co T} {x y:T} (vs:T→List Value) (hm:P.eqGuardType P.depth t=false) (hv:∀ x,c.e x=(vs x).map AV.lit) (he:∀ w x y,(Op.equalIn 10000 t (.agg (vs x).toArray) (.agg (vs y).toArray)).run P w = .ok (decide (x=y)) w) (hx:arg fr a=some (.agg (c.e x))) (hy:arg fr b=some (.agg (c.e y))):D P n H (.binOp .neq t a b t') ty fr (Ab (decide (x≠y))) :=
 .of fun o ho hty w Z F ρ _ hf=>by
  obtain ⟨us,e1,h1⟩:=hf (by simp [Op.operands]) hx
  obtain ⟨ws,e2,h2⟩:=hf (by simp [Op.operands]) hy
  rw [hv] at h1 h2
  have:=allp_lits h1
  subst this
  have:=allp_lits h2
  subst this
  refine ⟨.bool (!decide (x=y)),by simp only [execOp,ho,e1,e2,Sem.run_bind,run_eqGuard_agg w _ _ _ _ _ _ hm,Result.andThen_ok,run_neq_struct,he,Sem.run_pure],?_⟩
  show Value.bool _=_
  rw [decide_not]
end
end S
end Go.Proofs.Ytgmnohjaciemmaa

