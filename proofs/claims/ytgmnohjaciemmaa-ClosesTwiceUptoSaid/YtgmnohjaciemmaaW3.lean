import Derived.Deep.DeepAppendWide
import Derived.Laws.IdiomRangeMap
import Derived.RangeFuncIn
import Derived.RangeFuncRecord
import Derived.RangeFuncLeaves
import Derived.Test.YtgmnohjaciemmaaW2
namespace Go.Proofs.Ytgmnohjaciemmaa
namespace S
open Go.RowKit
set_option linter.unusedVariables false
set_option linter.unusedSimpArgs false
set_option linter.unusedSectionVars false
def AV.fnc (g:FuncId) (aS:List AV):AV:=⟨fun Z w v=>∃ vs,v = .func (.func g) #[] vs.toArray∧AllP Z w aS vs,fun hz hk h=>by obtain ⟨vs,e,h⟩:=h;exact ⟨vs,e,h.st hz hk⟩⟩
section
variable {P:Program} {f:FuncId} {n:Nat} {ops:Array Oper} {l:List Oper} {k:List Item} {fr:Fr} {H:List Res} {ρ R:Type} {x:Option ρ} {X:ρ→Option R} {K:R→AV→List Res→Prop} {ty t t' e t0:TypeId} {d:Nat} {pos:String} {aft:Array Edge}
theorem qe {g:FuncId} {cs:Array Operand} {avs:List AV} (ha:ArgsS fr cs.toList avs):D P n H (.makeFunc (.func g) #[] cs) ty fr (.fnc g avs) :=
 .of fun o ho hty w Z F ρ _ hf=>by
  have h:=argsS_ok (ρ:=ρ) ha fun {x a} hm hx=>hf (by simp [Op.operands];simpa using hm) hx
  have e:(cs.map ρ)=(cs.toList.map ρ).toArray:=by apply Array.ext';simp
  exact ⟨.func (.func g) #[] (cs.map ρ),by simp [execOp,ho,Instr.makeFunc,Sem.run_bind,Sem.run_pure],_,by rw [e],h⟩
theorem call_runC {o:Oper} {g:FuncId} {y:Operand} {args:Array Operand} {ts:Array TypeId} {w:World} {ρ:Operand→Value} {vs:List Value} (hy:ρ y = .func (.func g) #[] vs.toArray) (ho:o.op = .call ⟨.value y,args,ts⟩) (hg:Ent P g):(execOp ρ o).run P w = .ok (.enter g (args.toList.map ρ++vs).toArray) w:=by
 have:=hg (args.map ρ++vs.toArray) w
 simp only [execOp,ho,resolve,hy,Deferred.ofValue,invoke,Sem.run_bind,Sem.run_pure,Result.andThen_ok,Array.empty_append,this]
 congr 2
 apply Array.ext'
 simp
theorem AllP.app {Z:Nat→Prop} {w:World} {aS bs:List AV} {us vs:List Value} (h:AllP Z w aS us) (h':AllP Z w bs vs):AllP Z w (aS++bs) (us++vs):=by
 induction h with
 | nil=>exact h'
 | cons h1 _ ih=>exact .cons h1 ih
theorem cd {g:FuncId} {y:Operand} {args:Array Operand} {ts:Array TypeId} {avs cs:List AV} {Q:Type} {z:Option Q} {en:Q→AV} {r:Q} (hg:Ent P g) (hy:arg fr y=some (.fnc g cs)) (hp:Pure P g (avs++cs) z en) (hz:z=some r) (ha:ArgsS fr args.toList avs):D P n H (.call ⟨.value y,args,ts⟩) ty fr (en r):=by
 intro o ho hty w0 F0 Z0 w F Z tmps hn hi hf
 have hargs:=argsS_ok (ρ:=(⟨tmps,[]⟩:Act).eval) ha fun {x a} hm hx=>arg_ok hf hx (by simp [Op.operands,Call.operands];exact .inr (by simpa using hm))
 obtain ⟨vs,hv,hc⟩:=arg_ok hf hy (by simp [Op.operands,Call.operands])
 refine .inr ⟨g,_,w,_,call_runC hv ho hg,hp r hz w (fun _=>False) Z _ (hargs.app hc) (inv_enter hi),?_⟩
 rintro e w'' ⟨v,rfl,F',Z',av,H',⟨rfl,rfl⟩,hinv,hv⟩
 refine ⟨v,rfl,Z',hinv.z0,fun b hb=>?_,⟨hinv.base.os,hinv.base.tape,hinv.base.output,hinv.base.drawn,hinv.base.size,fun b hb _=>hinv.base.keep b hb id⟩,hv⟩
 have:=hinv.zin b hb
 exact this.2.elim .inl fun y=>y.elim (fun z=>z.elim) fun z=>.inr ⟨z,this.1⟩
theorem td {T:Type} {c:Co T} {xs:List T} {y:Operand} (ht:P.underlying t=some (.slice e)) (hy:arg fr y=some (.fsl c xs)) (hdn:Nat.blt d n=true) (h:∀ b:Bool,(b=true→xs=[])→SimL P f n ops l k ((d,Ab b)::fr) H x X K):SimL P f n ops (⟨some d,.binOp .eql t y (.const (.slice none 0 0)) t',ty,pos,aft,none⟩::l) k fr H x X K:=by
 refine ba (I:={ b:Bool // b=true→xs=[] }) (fun o ho hty w0 F0 Z0 w F Z ρ hinv hf=>?_) hdn fun i=>h i.1 i.2
 obtain ⟨A,m,e1,hm,hel⟩:=hf (by simp [Op.operands]) hy
 have e2:ρ (.const (.slice none 0 0))=_:=hf (a:=.lit (.slice none 0 0)) (by simp [Op.operands]) rfl
 have hA:A.isNone=true→xs=[]:=fun hA=>by
  cases xs with
  | nil=>rfl
  | cons a xs =>
   obtain ⟨a',h,_⟩:=hel 0 a rfl
   rw [h] at hA;cases hA
 exact ⟨.bool A.isNone,w,⟨A.isNone,hA⟩,F,Z,by simp [execOp,ho,e1,e2,eql_nil ht,Sem.run_bind,eqGuard],hinv,fun _ x=>x,Keep.refl _ _,rfl⟩
theorem sTo {todo:List Item} {x':Option ρ} (h:x=x') (hs:Sim P f n todo fr H x' X K):Sim P f n todo fr H x X K:=h ▸ hs
end
end S
namespace S
open Go.RowKit Go.WideMaps Go.MapKept
set_option linter.unusedVariables false
set_option linter.unusedSimpArgs false
set_option linter.unusedSectionVars false
def Res.all (L:List Res):Res:=⟨fun Z w F=>HAll L Z w F,fun hz hk h=>HAll.st hz hk h⟩
theorem kgTake {T G:Type} {ch:T→G→List Res} {xs:List T} {us:List G} {i:Nat} {y:T} {u:G} {Z F:Nat→Prop} {w:World} (h:(Res.kidsG ch xs us none).h Z w F) (hy:xs[i]?=some y) (hu:us[i]?=some u):∃ F1 F2:Nat→Prop,HAll (ch y u) Z w F1∧(Res.kidsG ch xs us (some i)).h Z w F2∧(∀ b,F1 b→F b∧¬ F2 b)∧∀ b,F2 b→F b:=by
 obtain ⟨Fs,k1,k2,k3⟩:=h
 refine ⟨Fs i,fun b=>F b∧¬ Fs i b,k1 i y u hy hu (by simp),⟨fun k b=>k≠i∧Fs k b,fun k x u2 hx hu2 ho=>?_,fun k b hb=>⟨k2 k b hb.2,fun y=>hb.1 (k3 k _ b hb.2 y)⟩,fun k k' b hb hb'=>k3 k k' b hb.2 hb'.2⟩,fun b hb=>⟨k2 _ b hb,fun z=>z.2 hb⟩,fun b hb=>hb.1⟩
 have e:k≠i:=fun e=>ho (by rw [e])
 have e2:(fun b=>k≠i∧Fs k b)=Fs k:=by funext b;simp [e]
 show HAll (ch x u2) Z w (fun b=>k≠i∧Fs k b)
 rw [e2];exact k1 k x u2 hx hu2 (by simp)
theorem kgGive {T G:Type} {ch:T→G→List Res} {xs:List T} {us:List G} {i:Nat} {y':T} {u':G} {Z F1 F2:Nat→Prop} {w:World} (hi:i<xs.length) (hl:us.length=xs.length) (h1:HAll (ch y' u') Z w F1) (h:(Res.kidsG ch xs us (some i)).h Z w F2) (hd:∀ b,F1 b→¬ F2 b):(Res.kidsG ch (xs.set i y') (us.set i u') none).h Z w fun b=>F1 b∨F2 b:=by
 obtain ⟨Fs,k1,k2,k3⟩:=h
 refine ⟨fun k b=>(k≠i∧Fs k b)∨(k=i∧F1 b),fun k z u2 hz hu2 _=>?_,fun k b hb=>hb.elim (fun y=>.inr (k2 k b y.2)) (fun y=>.inl y.2),fun k k' b hb hb'=>?_⟩
 ·by_cases e:k=i
  ·subst e
   rw [List.getElem?_set_self hi] at hz;cases hz
   rw [List.getElem?_set_self (by omega)] at hu2;cases hu2
   have e2:(fun b=>(k≠k∧Fs k b)∨(k=k∧F1 b))=F1:=by funext b;simp
   show HAll (ch y' u') Z w (fun b=>(k≠k∧Fs k b)∨(k=k∧F1 b))
   rw [e2];exact h1
  ·rw [List.getElem?_set,if_neg (Ne.symm e)] at hz hu2
   have e2:(fun b=>(k≠i∧Fs k b)∨(k=i∧F1 b))=Fs k:=by funext b;simp [e]
   show HAll (ch z u2) Z w (fun b=>(k≠i∧Fs k b)∨(k=i∧F1 b))
   rw [e2];exact k1 k z u2 hz hu2 (by simp [Ne.symm e])
 ·rcases hb with ⟨a1,a2⟩ | ⟨a1,a2⟩ <;> rcases hb' with ⟨b1,b2⟩ | ⟨b1,b2⟩
  ·exact k3 k k' b a2 b2
  ·exact (hd b b2 (k2 k b a2)).elim
  ·exact (hd b a2 (k2 k' b b2)).elim
  ·rw [a1,b1]
def AV.hn (q:Bool):AV:=⟨fun _ _ v=>∃ A n m,v = .slice A n m∧A.isNone=q,fun _ _ h=>h⟩
section
variable {κ T:Type} [DecidableEq κ]
def hds (es:List (κ×List T)) (us:List Value):List (κ×Value):=(es.map Prod.fst).zip us
def kix (es:List (κ×List T)) (k:κ):Option Nat:=es.findIdx? fun p=>decide (p.1=k)
def Res.mr (ek:κ→Value) (t:TypeId) (c:Co T) (b:Nat) (es:List (κ×List T)):Res :=
 ⟨fun Z w F=>∃ us:List Value,us.length=es.length∧(∀ p ∈ es,p.2≠[])∧HAll [.mp ek id b (hds es us),.kidsG (fun (p:κ×List T) u=>[.own t c u p.2]) es us none] Z w F,
  fun hz hk ⟨us,h1,h2,h3⟩=>⟨us,h1,h2,HAll.st hz hk h3⟩⟩
def Res.mpe (P:Program) (mt:TypeId) (ek:κ→Value) (b:Nat) (es:List (κ×Value)) (k:κ) (st:Nat):Res :=
 ⟨fun Z w F=>F b∧∃ ob,w.heap[b]?=some ob∧∀ (w2:World) (v:Value),w2.heap[b]?=some ob→∃ ob',(Instr.entryStore mt (.map (some b)) (goInt st) v).run P w2 = .ok () { w2 with heap:=w2.heap.setIfInBounds b ob' }∧MapAt ek id { w2 with heap:=w2.heap.setIfInBounds b ob' } b (mput es k v),
  fun hz hk ⟨hb,ob,h1,h2⟩=>⟨hb,ob,(hk b (.inr hb)).trans h1,h2⟩⟩
def Res.mro (P:Program) (mt:TypeId) (ek:κ→Value) (t:TypeId) (c:Co T) (b:Nat) (es:List (κ×List T)) (k:κ) (st:Nat):Res :=
 ⟨fun Z w F=>∃ us:List Value,us.length=es.length∧(∀ p ∈ es,p.2≠[])∧(es.Pairwise fun (p q:κ×List T)=>p.1≠q.1)∧HAll [.mpe P mt ek b (hds es us) k st,.kidsG (fun (p:κ×List T) u=>[.own t c u p.2]) es us (kix es k)] Z w F,
  fun hz hk ⟨us,h1,h2,h4,h3⟩=>⟨us,h1,h2,h4,HAll.st hz hk h3⟩⟩
def Res.mz (ek:κ→Value) (c:Co T) (b:Nat) (es:List (κ×List T)):Res :=
 ⟨fun Z w F=>∃ us:List Value,us.length=es.length∧(Res.mp ek id b (hds es us)).h Z w F∧∀ (i:Nat) (p:κ×List T) (u:Value),es[i]?=some p→us[i]?=some u→(AV.fsl c p.2).p Z w u,
  fun hz hk ⟨us,h1,h2,h3⟩=>⟨us,h1,Res.st _ hz hk h2,fun i p u hp hu=>AV.st _ hz (fun b hb=>hk b (.inl hb)) (h3 i p u hp hu)⟩⟩
theorem hds_at {es:List (κ×List T)} {us:List Value} {i:Nat} {p:κ×List T} {u:Value} (hp:es[i]?=some p) (hu:us[i]?=some u):(hds es us)[i]?=some (p.1,u):=by
 simp [hds,List.getElem?_zip_eq_some,hp,hu]
theorem hds_of {es:List (κ×List T)} {us:List Value} {i:Nat} {q:κ×Value} (h:(hds es us)[i]?=some q):∃ p,es[i]?=some p∧p.1=q.1∧us[i]?=some q.2:=by
 simp only [hds,List.getElem?_zip_eq_some,List.getElem?_map,Option.map_eq_some_iff] at h
 obtain ⟨⟨p,h1,h2⟩,h3⟩:=h
 exact ⟨p,h1,h2,h3⟩
theorem key_or (es:List (κ×List T)) (k:κ):(∀ p ∈ es,p.1≠k)∨∃ (i:Nat) (p:κ×List T),es[i]?=some p∧p.1=k:=by
 by_cases h:∃ p ∈ es,p.1=k
 ·obtain ⟨p,hp,e⟩:=h
  obtain ⟨i,hi⟩:=List.getElem?_of_mem hp
  exact .inr ⟨i,p,hi,e⟩
 ·exact .inl fun p hp e=>h ⟨p,hp,e⟩
theorem hds_no {es:List (κ×List T)} {us:List Value} {k:κ} (h:∀ p ∈ es,p.1≠k):∀ q ∈ hds es us,q.1≠k:=fun q hq=>by
 obtain ⟨i,hi⟩:=List.getElem?_of_mem hq
 obtain ⟨p,h1,h2,_⟩:=hds_of hi
 rw [← h2];exact h p (List.mem_of_getElem? h1)
theorem hds_pw {es:List (κ×List T)} {us:List Value} (hl:us.length=es.length) (h:(hds es us).Pairwise fun p q=>p.1≠q.1):es.Pairwise fun p q=>p.1≠q.1:=by
 have e:(hds es us).map Prod.fst=es.map Prod.fst:=by
  unfold hds;rw [List.map_fst_zip];simp [hl]
 have h1:((hds es us).map Prod.fst).Pairwise (·≠·):=List.pairwise_map.2 h
 rw [e] at h1
 exact List.pairwise_map.1 h1
theorem kix_none {es:List (κ×List T)} {k:κ} (h:∀ p ∈ es,p.1≠k):kix es k=none:=by
 unfold kix
 rw [List.findIdx?_eq_none_iff]
 intro p hp;simpa using h p hp
theorem kix_at {es:List (κ×List T)} {k:κ} (hn:es.Pairwise fun p q=>p.1≠q.1) {i:Nat} {p:κ×List T} (hi:es[i]?=some p) (hp:p.1=k):kix es k=some i:=by
 induction es generalizing i with
 | nil=>simp at hi
 | cons q es ih =>
  unfold kix
  rw [List.findIdx?_cons]
  cases i with
  | zero=>simp at hi;subst hi;simp [hp]
  | succ i =>
   have hq:q.1≠k:=fun e=>(List.pairwise_cons.1 hn).1 p (List.mem_of_getElem? (by simpa using hi)) (e.trans hp.symm)
   have:=ih (List.pairwise_cons.1 hn).2 (by simpa using hi)
   unfold kix at this
   simp [hq,this]
theorem len_of {i:Nat} {p:κ×List T} {es:List (κ×List T)} {us:List Value} (hl:us.length=es.length) (hi:es[i]?=some p):∃ u,us[i]?=some u:=by
 have:=(List.getElem?_eq_some_iff.1 hi).1
 exact ⟨us[i]'(by omega),List.getElem?_eq_getElem (by omega)⟩
end
section
variable {P:Program} {f:FuncId} {n:Nat} {ops:Array Oper} {l:List Oper} {k:List Item} {fr:Fr} {H:List Res} {ρ R:Type} {x:Option ρ} {X:ρ→Option R} {K:R→AV→List Res→Prop} {ty t t' kt et e t0:TypeId} {d:Nat} {pos:String} {aft:Array Edge}
variable {κ T:Type} [DecidableEq κ] {ek:κ→Value} {c:Co T} {es:List (κ×List T)} {b:Nat}
theorem findIdx_born {l:List MapEntry} (hn:(l.map (·.born)).Nodup) {j:Nat} {e0:MapEntry} (h:l[j]?=some e0):l.findIdx? (fun e=>((e.born:Nat):Int) == ((e0.born:Nat):Int))=some j:=by
 induction l generalizing j with
 | nil=>simp at h
 | cons a r ih =>
  simp only [List.map_cons,List.nodup_cons] at hn
  rw [List.findIdx?_cons]
  cases j with
  | zero=>simp at h;subst h;simp
  | succ j =>
   simp only [List.getElem?_cons_succ] at h
   have hne:a.born≠e0.born:=fun e1=>hn.1 (List.mem_map.2 ⟨e0,List.mem_of_getElem? h,e1.symm⟩)
   have hb:(((a.born:Nat):Int) == ((e0.born:Nat):Int))=false:=by
    simp only [beq_eq_false_iff_ne,ne_eq,Int.natCast_inj];exact hne
   rw [hb];simp [ih hn.2 h]
theorem findIdx_arr (xs:Array MapEntry) (p:MapEntry→Bool):xs.findIdx? p=xs.toList.findIdx? p:=by
 cases xs
 simp
theorem entry_run (M:MK P kt ek) (ht:P.underlying t=some (.map kt et)) {z:Value} (hz:∀ w,(zeroValue et).run P w = .ok z w) {E:List (κ×Value)} {w:World} (h:MapAt ek id w b E) (y:κ) :
  ∃ (st:Nat) (ob:Obj),(Instr.mapEntry t (.map (some b)) (ek y)).run P w = .ok (.tuple #[mgetD z E y,goInt st]) { w with heap:=w.heap.setIfInBounds b ob } ∧
   ∀ (w2:World) (v:Value),w2.heap[b]?=some ob→∃ ob',(Instr.entryStore t (.map (some b)) (goInt (st:Nat)) v).run P w2 = .ok () { w2 with heap:=w2.heap.setIfInBounds b ob' }∧MapAt ek id { w2 with heap:=w2.heap.setIfInBounds b ob' } b (mput E y v):=by
 obtain ⟨ms,clock,hh,hs,hp⟩:=h
 have hn:=pairs_apart M hs hp
 obtain ⟨s1,s2,_⟩:=(stamped_iff ms clock).1 hs
 rcases find_is M hs hp y w with ⟨h1,h2,h3⟩ | ⟨j,e,p,h1,h2,h3,h4,h6,h5⟩
 ·refine ⟨clock,.map (ms.push ⟨ek y,z,clock⟩) (clock+1),?_,fun w2 v hw2=>⟨.map (ms.push ⟨ek y,v,clock⟩) (clock+1),?_,_,_,(heap_set hw2).1,stamped_push hs h3,?_⟩⟩
  ·simp only [Instr.mapEntry,Sem.run_bind,run_underlying ht,Go.MapKept.run_getObj_map hh,M.check w _ y,h1,hz,Go.MapKept.run_setObj_map _ hh,Result.andThen_ok,Sem.run_pure,mgetD,mget_none h2,Option.getD_none]
  ·have hidx:(ms.push ⟨ek y,z,clock⟩).findIdx? (fun e=>((e.born:Nat):Int) == ((clock:Nat):Int))=some ms.size:=by
    have:=findIdx_born (l:=ms.toList++[⟨ek y,z,clock⟩]) (j:=ms.size) (e0:=⟨ek y,z,clock⟩) (by
     simp only [List.map_append,List.map_cons,List.map_nil]
     refine List.nodup_append.2 ⟨s2,by simp,fun a ha c hc e1=>?_⟩
     simp only [List.mem_singleton] at hc
     obtain ⟨x,hx,rfl⟩:=List.mem_map.1 ha
     have:=s1 x hx
     omega) (by simp)
    rw [findIdx_arr,Array.toList_push];exact this
   have hmod:(ms.push ⟨ek y,z,clock⟩).modify ms.size (fun e=>{ e with val:=v })=ms.push ⟨ek y,v,clock⟩:=by
    apply Array.ext'
    rw [Array.toList_modify,Array.toList_push,Array.toList_push,← Array.length_toList]
    generalize ms.toList=L
    induction L with
    | nil=>rfl
    | cons a L ih=>simp [List.modify_succ_cons,ih]
   simp [Instr.entryStore,MapKept.run_getObj_map hw2,asInt,asIntOf,goInt,hidx,hmod,MapKept.run_setObj_map _ hw2,Result.andThen]
  ·rw [mput_new h2];simp [hp]
 ·have hj:ms[j]?=some e:=by simpa using h2
  have hsame:ms.modify j (fun e=>{ e with key:=ek y })=ms:=by
   apply Array.ext'
   rw [Array.toList_modify]
   apply List.ext_getElem?
   intro i
   rw [List.getElem?_modify]
   by_cases hij:j=i
   ·subst hij;simp only [if_true,h2,Option.map_some];rw [← h6];rfl
   ·simp [hij]
  have hsame2:({ w with heap:=w.heap.setIfInBounds b (.map ms clock) }:World)=w:=by
   have:w.heap.setIfInBounds b (.map ms clock)=w.heap:=by
    apply Array.ext'
    rw [Array.toList_setIfInBounds]
    apply List.ext_getElem?
    intro i
    rw [List.getElem?_set]
    by_cases hij:b=i
    ·subst hij
     have h7:=hh
     rw [← Array.getElem?_toList] at h7
     have h8:=(List.getElem?_eq_some_iff.1 h7).1
     have h9:b<w.heap.size:=by simpa using h8
     rw [if_pos rfl,if_pos (by simpa using h8),h7]
    ·simp [hij]
   rw [this]
  refine ⟨e.born,.map ms clock,?_,fun w2 v hw2=>⟨.map (ms.modify j fun e=>{ e with key:=ek y,val:=v }) clock,?_,_,_,(heap_set hw2).1,stamped_modify hs _ _ (fun _ _=>rfl) (fun e' _ he'=>by rw [hj] at he';cases he';exact h6.symm),?_⟩⟩
  ·simp only [Instr.mapEntry,Sem.run_bind,run_underlying ht,Go.MapKept.run_getObj_map hh,M.check w _ y,h1,hj,Option.map_some,Option.getD_some,h6,M.stays w y,hsame,Go.MapKept.run_setObj_map _ hh,Result.andThen_ok,Sem.run_pure,mgetD,mget_at hn h3 h4,h5,id]
  ·have hidx:ms.findIdx? (fun x=>((x.born:Nat):Int) == ((e.born:Nat):Int))=some j:=by
    rw [findIdx_arr];exact findIdx_born s2 h2
   have hmod:ms.modify j (fun x=>{ x with val:=v })=ms.modify j (fun x=>{ x with key:=ek y,val:=v }):=by
    apply Array.ext'
    rw [Array.toList_modify,Array.toList_modify]
    apply List.ext_getElem?
    intro i
    rw [List.getElem?_modify,List.getElem?_modify]
    by_cases hij:j=i
    ·subst hij;simp only [if_true,h2,Option.map_some];rw [← h6];rfl
    ·simp [hij]
   simp [Instr.entryStore,MapKept.run_getObj_map hw2,asInt,asIntOf,goInt,hidx,hmod,MapKept.run_setObj_map _ hw2,Result.andThen]
  ·rw [mput_at hn h3 h4]
   apply List.ext_getElem?
   intro i
   simp only [Array.toList_modify,List.getElem?_map,List.getElem?_modify,List.getElem?_set]
   have hi:=congrArg (·[i]?) hp
   simp only [List.getElem?_map] at hi
   by_cases hij:j=i
   ·subst hij
    have hl:j<E.length:=(List.getElem?_eq_some_iff.1 h3).1
    simp [h2,hl]
   ·simp only [hij,if_false]
    simpa using hi
theorem own_some {t:TypeId} {v:Value} {xs:List T} {Z F:Nat→Prop} {w:World} (h:(Res.own t c v xs).h Z w F) (hx:xs≠[]):∃ A m,v = .slice (some A) xs.length m:=by
 rcases h with ⟨cs,⟨hl,ho⟩,hb,hr⟩ | ⟨rfl,A,rfl⟩
 ·rcases ho with ⟨_,hn⟩ | ⟨g,cap,cur,hv,_⟩
  ·exact (hx (List.length_eq_zero_iff.1 hn)).elim
  ·exact ⟨_,_,hv⟩
 ·exact (hx rfl).elim
theorem qd {y m:Operand} {j:Nat} {a:κ} (M:MK P kt ek) (ht:P.underlying t=some (.map kt et)) (hz:∀ w,(zeroValue et).run P w = .ok (.slice none 0 0) w) (hm:arg fr m=some (.lit (.map (some b)))) (hj:H[j]?=some (.mr ek t0 c b es)) {av:AV} (hy:arg fr y=some av) (ha:∀ Z w v,av.p Z w v→v=ek a) :
  D P n H (.lookup t m y false) ty fr (.hn (decide (mget es a=none))) :=
 .of fun q ho hty w Z F ρ hH hf=>by
  have e1:ρ m=_:=hf (by simp [Op.operands]) hm
  have e2:ρ y=_:=ha _ _ _ (hf (by simp [Op.operands]) hy)
  obtain ⟨F1,⟨us,hl,hne,G1,G2,⟨hb,hma⟩,⟨G3,G4,⟨Fs,k1,k2,k3⟩,_,_,_⟩,_,_⟩,_⟩:=hH.at hj
  have hma2:=hma
  obtain ⟨ms,clock,hh,hs,hp⟩:=hma2
  have hn:=pairs_apart M hs hp
  refine ⟨mgetD (.slice none 0 0) (hds es us) a,(by simp only [execOp,ho,e1,e2,look_run M ht (z:=Value.slice none 0 0) hz hma,Sem.run_bind,Result.andThen_ok,Sem.run_pure];rfl),?_⟩
  rcases key_or es a with h1 | ⟨i,p,h1,h2⟩
  ·rw [mgetD,mget_none (hds_no h1),mget_none h1]
   exact ⟨_,_,_,rfl,rfl⟩
  ·obtain ⟨u,hu⟩:=len_of hl h1
   have h3:mget (hds es us) a=some u:=mget_at hn (hds_at h1 hu) h2
   have h4:mget es a=some p.2:=mget_at (hds_pw hl hn) h1 h2
   rw [mgetD,h3,h4]
   obtain ⟨E1,E2,g1,_⟩:=k1 i p u h1 hu (by simp)
   obtain ⟨A,q,e⟩:=own_some g1 (hne p (List.mem_of_getElem? h1))
   exact ⟨_,_,_,e,by simp⟩
theorem ae {y:Operand} {q:Bool} (ht:P.underlying t=some (.slice e)) (hy:arg fr y=some (.hn q)):D P n H (.binOp .eql t y (.const (.slice none 0 0)) t') ty fr (Ab q) :=
 .of fun o ho hty w Z F ρ hH hf=>by
  obtain ⟨A,m,m2,e1,hA⟩:=hf (by simp [Op.operands]) hy
  have e2:ρ (.const (.slice none 0 0))=_:=hf (a:=.lit (.slice none 0 0)) (by simp [Op.operands]) rfl
  exact ⟨.bool A.isNone,by simp [execOp,ho,e1,e2,eql_nil ht,Sem.run_bind,eqGuard],by rw [hA];rfl⟩
theorem qc (hdn:Nat.blt d n=true) (h:∀ b,SimL P f n ops l k ((d,.lit (.map (some b)))::fr) (.mr ek t0 c b ([]:List (κ×List T))::H) x X K):SimL P f n ops (⟨some d,.makeMap t none,ty,pos,aft,none⟩::l) k fr H x X K :=
 M8 (ek:=ek) (ev:=(id:Value→Value)) hdn fun b is hs=>ac (r':=.mr ek t0 c b ([]:List (κ×List T))) 0 rfl (fun Z w F1 h1=>⟨[],rfl,by simp,F1,fun _=>False,h1,⟨fun _=>False,fun _=>False,⟨fun _ _=>False,fun k x u hx=>by simp at hx,fun _ _ x=>x,fun _ _ _ x=>x.elim⟩,trivial,fun _ x=>x.elim,fun _ x=>x.elim⟩,fun b hb=>⟨hb,id⟩,fun _ x=>x.elim⟩) (h b is hs)
theorem hds_pw' {es:List (κ×List T)} {us:List Value} (hl:us.length=es.length) (h:es.Pairwise fun p q=>p.1≠q.1):(hds es us).Pairwise fun p q=>p.1≠q.1:=by
 have e:(hds es us).map Prod.fst=es.map Prod.fst:=by
  unfold hds;rw [List.map_fst_zip];simp [hl]
 have h1:(es.map Prod.fst).Pairwise (·≠·):=List.pairwise_map.2 h
 rw [← e] at h1
 exact List.pairwise_map.1 h1
abbrev kidsR (t0:TypeId) (c:Co T) (es:List (κ×List T)) (us:List Value) (o:Option Nat):Res:=.kidsG (fun (p:κ×List T) u=>[.own t0 c u p.2]) es us o
theorem sMrO (j:Nat) (hj:H[j]?=some (.mr ek t0 c b es)) (h:∀ us:List Value,us.length=es.length→(∀ p ∈ es,p.2≠[])→SimL P f n ops l k fr (.mp ek id b (hds es us)::kidsR t0 c es us none::H.eraseIdx j) x X K):SimL P f n ops l k fr H x X K:=by
 intro is hs r hr w0 F0 Z0 w F Z tmps hn hi hf
 obtain ⟨F1,F2,⟨us,hl,hne,h1⟩,h2,d1,d2⟩:=hi.res.take hj
 refine h us hl hne is hs r hr w0 F0 Z0 w F Z tmps hn (hi.less fun _=>?_) hf
 exact (HAll.append h1 h2 fun b hb=>(d1 b hb).2).wide fun b hb=>hb.elim (fun x=>(d1 b x).1) (d2 b)
theorem yd {a:κ} {st:Nat} (j:Nat) (hj:H[j]?=some (.mro P t' ek t0 c b es a st)) (h:∀ us:List Value,us.length=es.length→(∀ p ∈ es,p.2≠[])→(es.Pairwise fun (p q:κ×List T)=>p.1≠q.1)→SimL P f n ops l k fr (.mpe P t' ek b (hds es us) a st::kidsR t0 c es us (kix es a)::H.eraseIdx j) x X K):SimL P f n ops l k fr H x X K:=by
 intro is hs r hr w0 F0 Z0 w F Z tmps hn hi hf
 obtain ⟨F1,F2,⟨us,hl,hne,hpw,h1⟩,h2,d1,d2⟩:=hi.res.take hj
 refine h us hl hne hpw is hs r hr w0 F0 Z0 w F Z tmps hn (hi.less fun _=>?_) hf
 exact (HAll.append h1 h2 fun b hb=>(d1 b hb).2).wide fun b hb=>hb.elim (fun x=>(d1 b x).1) (d2 b)
theorem Qb {H':List Res} (hH:∀ {Z F:Nat→Prop} {w:World},HAll H Z w F→HAll H' Z w F) (h:SimL P f n ops l k fr H' x X K):SimL P f n ops l k fr H x X K:=fun is hs=>Ga hH (h is hs)
theorem Qd {y m:Operand} {a:κ} (j:Nat) (M:MK P kt ek) (ht:P.underlying t=some (.map kt et)) (hz:∀ w,(zeroValue et).run P w = .ok (.slice none 0 0) w) (hm:arg fr m=some (.lit (.map (some b)))) (hj:H[j]?=some (.mr ek t0 c b es)) {av:AV} (hy:arg fr y=some av) (ha:∀ Z w v,av.p Z w v→v=ek a) (hdn:Nat.blt d n=true)
  (h:∀ v st,SimL P f n ops l k ((d,.tup [.sv v,.lit (goInt (st:Nat))])::fr) (.own t0 c v (mgetD [] es a) :: .mro P t ek t0 c b es a st::H.eraseIdx j) x X K):SimL P f n ops (⟨some d,.mapEntry t m y,ty,pos,aft,none⟩::l) k fr H x X K:=by
 refine sMrO j hj fun us hl hne=>ba (I:={ i:Value×Nat // i.1=mgetD (.slice none 0 0) (hds es us) a∧(∃ A p q,i.1 = .slice A p q)∧es.Pairwise fun (p q:κ×List T)=>p.1≠q.1 }) (av:=fun i=>.tup [.sv i.1.1,.lit (goInt i.1.2)]) (H':=fun i=>.mpe P t ek b (hds es us) a i.1.2::kidsR t0 c es us none::H.eraseIdx j) (fun o ho hty w0 F0 Z0 w F Z ρ hi hf=>?_) hdn fun i=>?_
 ·have e1:ρ m=_:=hf (by simp [Op.operands]) hm
  have e2:ρ y=_:=ha _ _ _ (hf (by simp [Op.operands]) hy)
  obtain ⟨F1,F2,⟨hb,hma⟩,⟨G1,G2,⟨Fs,k1,_⟩,_⟩,_⟩:=hi.res
  obtain ⟨st,ob,h1,h2⟩:=entry_run M ht hz hma a
  have hn:(hds es us).Pairwise fun p q=>p.1≠q.1:=by obtain ⟨ms,clock,hh,hs,hp⟩:=hma;exact pairs_apart M hs hp
  have hsl:∃ A p q,mgetD (.slice none 0 0) (hds es us) a = .slice A p q:=by
   rcases key_or es a with g | ⟨i,p,g1,g2⟩
   ·exact ⟨_,_,_,by rw [mgetD,mget_none (hds_no g)];rfl⟩
   ·obtain ⟨u,hu⟩:=len_of hl g1
    obtain ⟨E1,E2,g3,_⟩:=k1 i p u g1 hu (by simp)
    obtain ⟨A,q,e⟩:=own_sv g3
    exact ⟨A,_,q,by rw [mgetD,mget_at hn (hds_at g1 hu) g2];exact e⟩
  obtain ⟨F',hi',hk⟩:=hi.turn (w':={ w with heap:=w.heap.setIfInBounds b ob }) (j:=0) (r':=.mpe P t ek b (hds es us) a st) rfl fun F1 h3 hz1=>⟨F1,Step.setObj w b ob F1 h3.1,⟨h3.1,ob,(by obtain ⟨_,ms,clock,hh,_⟩:=h3;exact (heap_set hh).1),h2⟩,fun _ x=>.inl x⟩
  exact ⟨_,_,⟨(mgetD (.slice none 0 0) (hds es us) a,st),rfl,hsl,hds_pw hl hn⟩,F',Z,by simp only [execOp,ho,e1,e2,h1,Sem.run_bind,Result.andThen_ok,Sem.run_pure],hi',fun _ x=>x,hk,[_,_],rfl,.cons ⟨rfl,hsl⟩ (.cons rfl .nil)⟩
 ·obtain ⟨⟨v,st⟩,hv,hsl,hpw⟩:=i
  simp only at hv
  refine Qb (fun {Z F w} hH=>?_) (h v st)
  obtain ⟨F1,F2,h1,⟨G1,G2,h2,h3,d3,d4⟩,d1,d2⟩:=hH
  rcases key_or es a with g | ⟨i,p,g1,g2⟩
  ·refine ⟨fun _=>False,F,?_,⟨fun b=>F1 b∨G1 b,G2,⟨us,hl,hne,hpw,F1,G1,h1,⟨G1,fun _=>False,by rw [kix_none g];exact h2,trivial,fun b hb=>⟨hb,id⟩,fun _ x=>x.elim⟩,fun b hb=>⟨.inl hb,fun x=>(d1 b hb).2 (d3 b x).1⟩,fun b hb=>.inr hb⟩,h3,fun b hb=>hb.elim (fun x=>⟨(d1 b x).1,fun y=>(d1 b x).2 (d4 b y)⟩) (fun x=>⟨d2 b (d3 b x).1,(d3 b x).2⟩),fun b hb=>d2 b (d4 b hb)⟩,fun _ x=>x.elim,fun _ x=>x⟩
   rw [hv,mgetD,mget_none (hds_no g),mgetD,mget_none g];exact own_nil
  ·obtain ⟨u,hu⟩:=len_of hl g1
   have hn:=hds_pw' hl hpw
   obtain ⟨E1,E2,q1,q2,c1,c2⟩:=kgTake h2 g1 hu
   have e1:mgetD (.slice none 0 0) (hds es us) a=u:=by rw [mgetD,mget_at hn (hds_at g1 hu) g2];rfl
   have e2:mgetD [] es a=p.2:=by rw [mgetD,mget_at hpw g1 g2];rfl
   rw [hv,e1,e2]
   obtain ⟨J1,J2,q3,_,j1,_⟩:=q1
   refine ⟨J1,fun b=>F1 b∨E2 b∨G2 b,q3,⟨fun b=>F1 b∨E2 b,G2,⟨us,hl,hne,hpw,F1,E2,h1,⟨E2,fun _=>False,by rw [kix_at hpw g1 g2];exact q2,trivial,fun b hb=>⟨hb,id⟩,fun _ x=>x.elim⟩,fun b hb=>⟨.inl hb,fun x=>(d1 b hb).2 (d3 b (c2 b x)).1⟩,fun b hb=>.inr hb⟩,h3,fun b hb=>hb.elim (fun x=>⟨.inl x,fun y=>(d1 b x).2 (d4 b y)⟩) (fun x=>⟨.inr (.inl x),(d3 b (c2 b x)).2⟩),fun b hb=>.inr (.inr hb)⟩,fun b hb=>?_,fun b hb=>?_⟩
   ·have j2:=c1 b (j1 b hb).1
    have j3:=d3 b j2.1
    refine ⟨d2 b j3.1,fun x=>?_⟩
    rcases x with x | x | x
    ·exact (d1 b x).2 j3.1
    ·exact j2.2 x
    ·exact j3.2 x
   ·rcases hb with x | x | x
    ·exact (d1 b x).1
    ·exact d2 b (d3 b (c2 b x)).1
    ·exact d2 b (d4 b x)
theorem Md {m s u:Operand} {a:κ} {st:Nat} {v:Value} {ys:List T} (j j2:Nat) (hm:arg fr m=some (.lit (.map (some b)))) (hs:arg fr s=some (.lit (goInt (st:Nat)))) (hu:arg fr u=some (.sv v)) (hj:H[j]?=some (.mro P t ek t0 c b es a st)) (hj2:(H.eraseIdx j)[j2]?=some (.own t0 c v ys)) (hne2:ys≠[])
  (h:SimL P f n ops l k fr (.mr ek t0 c b (mput es a ys)::(H.eraseIdx j).eraseIdx j2) x X K):SimL P f n ops (⟨none,.entryStore t m s u,ty,pos,aft,none⟩::l) k fr H x X K:=by
 refine yd j hj fun us hl hne hpw=>Pb (H':=.mp ek id b (mput (hds es us) a v)::kidsR t0 c es us (kix es a)::H.eraseIdx j) (fun o ho w0 F0 Z0 w F Z ρ hi hf=>?_) (Qb (fun {Z F w} hH=>?_) h)
 ·have e1:ρ m=_:=hf (by simp [Op.operands]) hm
  have e2:ρ s=_:=hf (by simp [Op.operands]) hs
  have e3:ρ u=v:=(hf (by simp [Op.operands]) hu).1
  obtain ⟨F1,F2,⟨hb,ob,h1,h2⟩,_⟩:=hi.res
  obtain ⟨ob',h3,h4⟩:=h2 w v h1
  obtain ⟨F',hi',hk⟩:=hi.turn (w':={ w with heap:=w.heap.setIfInBounds b ob' }) (j:=0) (r':=.mp ek id b (mput (hds es us) a v)) rfl fun F1 h5 hz1=>⟨F1,Step.setObj w b ob' F1 h5.1,⟨h5.1,h4⟩,fun _ x=>.inl x⟩
  exact ⟨_,F',Z,by simp only [execOp,ho,e1,e2,e3,h3,Sem.run_bind,Result.andThen_ok,Sem.run_pure],hi',fun _ x=>x,hk⟩
 ·obtain ⟨F1,F2,h1,⟨G1,G2,h2,h3,d3,d4⟩,d1,d2⟩:=hH
  obtain ⟨E1,E2,q1,q2,c1,c2⟩:=h3.take hj2
  have fin:∀ us':List Value,us'.length=(mput es a ys).length→hds (mput es a ys) us'=mput (hds es us) a v→(∀ p ∈ mput es a ys,p.2≠[])→(kidsR t0 c (mput es a ys) us' none).h Z w (fun b=>E1 b∨G1 b)→HAll (.mr ek t0 c b (mput es a ys)::(H.eraseIdx j).eraseIdx j2) Z w F:=fun us' g1 g2 g3 g4 =>
   ⟨fun b=>F1 b∨E1 b∨G1 b,E2,⟨us',g1,g3,F1,fun b=>E1 b∨G1 b,by rw [g2];exact h1,⟨fun b=>E1 b∨G1 b,fun _=>False,g4,trivial,fun b hb=>⟨hb,id⟩,fun _ x=>x.elim⟩,fun b hb=>⟨.inl hb,fun x=>(d1 b hb).2 (x.elim (fun y=>d4 b (c1 b y).1) fun y=>(d3 b y).1)⟩,fun b hb=>.inr hb⟩,q2,fun b hb=>by
    rcases hb with x | x | x
    ·exact ⟨(d1 b x).1,fun y=>(d1 b x).2 (d4 b (c2 b y))⟩
    ·exact ⟨d2 b (d4 b (c1 b x).1),(c1 b x).2⟩
    ·exact ⟨d2 b (d3 b x).1,fun y=>(d3 b x).2 (c2 b y)⟩,fun b hb=>d2 b (d4 b (c2 b hb))⟩
  have hEG:∀ b,E1 b→¬ G1 b:=fun b hb hg=>(d3 b hg).2 (c1 b hb).1
  rcases key_or es a with g | ⟨i,p,g1,g2⟩
  ·refine fin (us++[v]) (by rw [mput_new g];simp [hl]) ?_ (fun p hp=>?_) ?_
   ·rw [mput_new g,mput_new (hds_no g)]
    unfold hds;rw [List.map_append,List.zip_append (by simp [hl])];rfl
   ·rw [mput_new g] at hp
    rcases List.mem_append.1 hp with hp | hp
    ·exact hne p hp
    ·simp at hp;subst hp;exact hne2
   ·rw [mput_new g]
    rw [kix_none g] at h2
    obtain ⟨Fs,k1,k2,k3⟩:=h2
    refine ⟨fun i=>if i<es.length then Fs i else if i=es.length then E1 else fun _=>False,fun i q w1 hq hw _=>?_,fun i b hb=>?_,fun i i' b hb hb'=>?_⟩
    ·by_cases hi:i<es.length
     ·rw [List.getElem?_append_left hi] at hq
      rw [List.getElem?_append_left (by omega)] at hw
      show HAll _ Z w (if i<es.length then Fs i else if i=es.length then E1 else fun _=>False)
      rw [if_pos hi];exact k1 i q w1 hq hw (by simp)
     ·rw [List.getElem?_append_right (by omega)] at hq
      rw [List.getElem?_append_right (by omega)] at hw
      have hi2:i=es.length:=by
       have:=(List.getElem?_eq_some_iff.1 hq).1
       simp at this;omega
      subst hi2
      simp [hl] at hq hw;subst hq hw
      show HAll _ Z w (if es.length<es.length then Fs es.length else if es.length=es.length then E1 else fun _=>False)
      rw [if_neg hi,if_pos rfl]
      exact ⟨E1,fun _=>False,q1,trivial,fun b hb=>⟨hb,id⟩,fun _ x=>x.elim⟩
    ·simp only at hb
     split at hb
     ·exact .inr (k2 _ b hb)
     ·split at hb
      ·exact .inl hb
      ·exact hb.elim
    ·simp only at hb hb'
     split at hb <;> split at hb'
     ·exact k3 _ _ b hb hb'
     ·split at hb'
      ·exact (hEG b hb' (k2 _ b hb)).elim
      ·exact hb'.elim
     ·split at hb
      ·exact (hEG b hb (k2 _ b hb')).elim
      ·exact hb.elim
     ·split at hb
      ·split at hb'
       ·omega
       ·exact hb'.elim
      ·exact hb.elim
  ·obtain ⟨u0,hu0⟩:=len_of hl g1
   have hn:=hds_pw' hl hpw
   have hi:=(List.getElem?_eq_some_iff.1 g1).1
   refine fin (us.set i v) (by rw [mput_at hpw g1 g2];simp [hl]) ?_ (fun q hq=>?_) ?_
   ·rw [mput_at hpw g1 g2,mput_at hn (hds_at g1 hu0) g2]
    unfold hds;rw [List.map_set,← zip_setG]
   ·rw [mput_at hpw g1 g2] at hq
    rcases List.mem_or_eq_of_mem_set hq with hq | hq
    ·exact hne q hq
    ·subst hq;exact hne2
   ·rw [mput_at hpw g1 g2]
    rw [kix_at hpw g1 g2] at h2
    exact kgGive hi hl ⟨E1,fun _=>False,q1,trivial,fun b hb=>⟨hb,id⟩,fun _ x=>x.elim⟩ h2 hEG
theorem Ld {todo:List Item} (j:Nat) (hj:H[j]?=some (.mr ek t0 c b es)) (h:Sim P f n todo fr (.mz ek c b es::H.eraseIdx j) x X K):Sim P f n todo fr H x X K:=by
 intro q hq w0 F0 Z0 w F Z tmps hn hi hf
 obtain ⟨F1,F2,⟨us,hl,hne,G1,E2,h1,⟨E3,_,⟨Fs,k1,k2,k3⟩,_,e4,_⟩,e1,e2⟩,h2,d1,d2⟩:=hi.res.take hj
 have hzz:∀ b,Z b→Z b∨E3 b:=fun _ x=>.inl x
 have e3:∀ b,E3 b→F1 b:=fun b hb=>e2 b (e4 b hb).1
 refine h q hq w0 F0 Z0 w (fun b=>F b∧¬ E3 b) (fun b=>Z b∨E3 b) tmps hn ?_ (hf.st hzz (Keep.refl _ _))
 refine hi.step (F1:=fun _=>False) (Step.refl _ _) (fun _ x=>x.elim) hzz (fun b x=>x.imp id fun y=>.inl (d1 b (e3 b y)).1) (fun b hb=>⟨.inl hb.1,fun x=>x.elim (hi.fin b hb.1).2.2 hb.2⟩) ⟨G1,F2,⟨us,hl,Res.st _ hzz (fun _ _=>rfl) h1,fun i p u hp hu=>?_⟩,h2.st hzz (fun _ _=>rfl),fun b hb=>⟨⟨(d1 b (e1 b hb).1).1,fun x=>(e1 b hb).2 (e4 b x).1⟩,(d1 b (e1 b hb).1).2⟩,fun b hb=>⟨d2 b hb,fun y=>(d1 b (e3 b y)).2 hb⟩⟩
 obtain ⟨J1,J2,q1,_,j1,_⟩:=k1 i p u hp hu (by simp)
 exact AV.st _ (fun b hb=>hb.imp id fun y=>k2 i b (j1 b y).1) (Keep.refl _ _) (own_fsl q1)
theorem Wc {y m:Operand} {j:Nat} {a:κ} (M:MK P kt ek) (ht:P.underlying t=some (.map kt et)) (hz:∀ w,(zeroValue et).run P w = .ok (.slice none 0 0) w) (hm:arg fr m=some (.lit (.map (some b)))) (hj:H[j]?=some (.mz ek c b es)) {av:AV} (hy:arg fr y=some av) (ha:∀ Z w v,av.p Z w v→v=ek a) :
  D P n H (.lookup t m y false) ty fr (.fsl c (mgetD [] es a)) :=
 .of fun q ho hty w Z F ρ hH hf=>by
  have e1:ρ m=_:=hf (by simp [Op.operands]) hm
  have e2:ρ y=_:=ha _ _ _ (hf (by simp [Op.operands]) hy)
  obtain ⟨F1,⟨us,hl,⟨hb,hma⟩,hr⟩,_⟩:=hH.at hj
  have hma2:=hma
  obtain ⟨ms,clock,hh,hs,hp⟩:=hma2
  have hn:=pairs_apart M hs hp
  refine ⟨mgetD (.slice none 0 0) (hds es us) a,(by simp only [execOp,ho,e1,e2,look_run M ht (z:=Value.slice none 0 0) hz hma,Sem.run_bind,Result.andThen_ok,Sem.run_pure];rfl),?_⟩
  rcases key_or es a with h1 | ⟨i,p,h1,h2⟩
  ·simp only [mgetD,mget_none (hds_no h1),mget_none h1,Option.getD_none]
   exact nil_fsl c Z w
  ·obtain ⟨u,hu⟩:=len_of hl h1
   simp only [mgetD,mget_at hn (hds_at h1 hu) h2,mget_at (hds_pw hl hn) h1 h2,Option.getD_some]
   exact hr i p u h1 hu
end
end S
namespace S
open Go.RowKit
set_option linter.unusedVariables false
set_option linter.unusedSimpArgs false
set_option linter.unusedSectionVars false
section
variable {P:Program} {f:FuncId} {n:Nat} {ops:Array Oper} {l:List Oper} {k:List Item} {fr:Fr} {H:List Res} {ρ R:Type} {x:Option ρ} {X:ρ→Option R} {K:R→AV→List Res→Prop} {ty t t' e:TypeId} {d:Nat} {pos:String} {aft:Array Edge}
variable {T:Type} {c:Co T} {xs:List T} {v:Value} {j:Nat}
theorem append_emptyW {w:World} {i:TypeInfo} {z:Value} {sz bytes:Nat} {B a:Addr} {m:Nat} {u:Value} {ys:List T} {news:List Value} (ht:P.underlying t=some (.slice e)) (i1:P.info? e=some i) (i2:i.zero=some z) (i3:i.size=sz) (i4:i.bytes=bytes) (hy:ys≠[]) (hb:((ys.length)+(ys.length) / 4+192)*bytes≤281474976710656) (g1:news.length=ys.length*sz) (g2:∀ j v,news[j]?=some v→w.cell? (a.add j)=some v) (hu:u = .slice (some a) ys.length m) (hb0:0<bytes) :
  (Builtin.append_ #[t,t] ty #[.slice (some B) 0 0,u]).run P w=(Builtin.append_ #[t,t] ty #[.slice none 0 0,u]).run P w:=by
 subst hu i3 i4
 have hl:0<ys.length:=List.length_pos_iff.2 hy
 have hle:ys.length*1≤ys.length*i.bytes:=Nat.mul_le_mul_left _ hb0
 have hq:ys.length*i.bytes≤281474976710656:=Nat.le_trans (Nat.mul_le_mul_right _ (by omega)) hb
 rw [run_append_grow (P:=P) w t ty e i z ht i1 i2 B 0 0 [] (by simp) (by simp) a ys.length m news g1 g2 (by omega) (by omega) (growslice_fits_wide (by omega) (by simpa using hb))]
 rw [run_append_nil (P:=P) w t ty e i z ht i1 i2 a ys.length m news g1 g2 (by omega) (by omega) (by omega)]
 simp
theorem run_append_rowW (w:World) (t ty e:TypeId) (i:TypeInfo) (z:Value) (size bytes:Nat) (ht:P.underlying t=some (.slice e)) (hi:P.info? e=some i) (hz:i.zero=some z)
  (hsize:i.size=size) (hby:i.bytes=bytes) (hzs:z.cells.size=size) (hsz:0<size) (v:Value) (n:Nat) (xs:List Value) (hown:rowOwn w e size v n xs)
  (a:Addr) (m c:Nat) (news:List Value) (hl:news.length=m*size) (hnews:∀ j u,news[j]?=some u→w.cell? (a.add j)=some u) (h1:∀ u ∈ news,u.oneCell'=true)
  (h63:n+m≤maxLen) (hbytes:((n+m)+(n+m) / 4+192)*bytes≤281474976710656) :
  ∃ v' w',(Builtin.append_ #[t,t] ty #[v,.slice (some a) m c]).run P w = .ok v' w'∧rowOwn w' e size v' (n+m) (xs++news)∧w.grownBy w' v.ownBlock∧(v'.ownBlock=v.ownBlock∨v'.ownBlock=some w.heap.size):=by
 have hlen:(xs++news).length=(n+m)*size:=by rw [List.length_append,hown.1,hl,Nat.add_mul]
 rcases hown.2 with ⟨rfl,rfl⟩ | ⟨g,cap,cur,rfl,hbg,⟨fz,hg,hfz⟩,hnc,hcm,hcs,htake⟩
 ·have hx:xs=[]:=List.eq_nil_of_length_eq_zero (by simpa using hown.1)
  subst hx hsize hby
  simp only [Nat.zero_add,List.nil_append] at *
  by_cases hm:m=0
  ·subst hm
   have hn:news=[]:=List.eq_nil_of_length_eq_zero (by simpa using hl)
   subst hn
   exact ⟨.slice none 0 0,w,by simp [Builtin.append_,run_underlying ht,sizeOf,typeInfo,hi,Builtin.lenOf,Builtin.firstCells,storeCells,loadCells,loadCellsFrom],⟨by simp,.inl ⟨rfl,rfl⟩⟩,⟨rfl,rfl,rfl,Nat.le_refl _,fun _ _ _=>rfl⟩,.inl rfl⟩
  ·have hr:=run_append_nil (P:=P) w t ty e i z ht hi hz a m c news hl hnews (by omega) (by simp only [maxLen] at h63;omega) (Nat.le_trans (Nat.mul_le_mul_right _ (by omega)) hbytes)
   have hge:=grownCap_ge w m 0 e
   have hcm:=grownCap_le_maxLen w m 0 e h63
   refine ⟨_,_,hr,⟨hlen,.inr ⟨w.heap.size,_,_,rfl,Nat.zero_le _,.new (heap_alloc_new w.drew _),hge,hcm,?_,?_⟩⟩,⟨rfl,rfl,rfl,by simp,fun k hk _=>Below.heap_alloc w.drew _ k hk⟩,Or.inr rfl⟩
   ·simp only [Array.size_append,List.size_toArray,size_zeroCells,hzs,hl,← Nat.add_mul]
    congr 1
    omega
   ·simp only [Array.toList_append]
    rw [← hlen]
    exact List.take_left
 ·have hfz:=hfz
  have hsmall:n+m≤9223372036854775807:=by simp only [maxLen] at h63;omega
  subst hsize hby
  by_cases hroom:n+m≤cap
  ·have hfit:n*i.size+news.length≤cur.size:=by rw [hl,hcs,← Nat.add_mul];exact Nat.mul_le_mul_right _ hroom
   have hf:=run_firstCells_some (P:=P) w i.size m a m c news hl hnews
   have hst:=run_storeCells_fz (P:=P) g (n*i.size) e fz news 0 cur w hg hfz (by simpa using hfit) h1
   simp only [Nat.add_zero] at hst
   have hr:(Builtin.append_ #[t,t] ty #[.slice (some ⟨g,0,none⟩) n cap,.slice (some a) m c]).run P w =
     .ok (.slice (some ⟨g,0,none⟩) (n+m) cap) (w.setRow g (cur.toList.take (n*i.size)++news++cur.toList.drop (n*i.size+news.length)).toArray):=by
    simp [Builtin.append_,run_underlying ht,sizeOf,typeInfo,hi,Builtin.lenOf,hroom,hf,Addr.add_lit,hst]
   have hsame:(cur.toList.take (n*i.size)++news++cur.toList.drop (n*i.size+news.length)).toArray.size=cur.size:=by
    simp only [List.size_toArray,List.length_append,List.length_take,List.length_drop,Array.length_toList];omega
   refine ⟨_,_,hr,⟨hlen,.inr ⟨g,cap,_,rfl,hbg,⟨fz,setRow_heap w g cur _ e _ hg,by rw [hsame];exact hfz⟩,hroom,hcm,by rw [hsame];exact hcs,?_⟩⟩,⟨rfl,rfl,rfl,by simp,fun k _ hk=>setRow_other w g k _ (fun e=>hk (by simp [Value.ownBlock,e]))⟩,Or.inl rfl⟩
   rw [htake,← hlen]
   exact List.take_left
  ·have holds:∀ j u,xs[j]?=some u→w.cell? ((⟨g,0,none⟩:Addr).add j)=some u:=by
    intro j u hu
    rw [Addr.add_lit,cell_of_row w g _ cur e fz hg]
    rw [← htake,List.getElem?_take] at hu
    split at hu
    ·simpa using hu
    ·cases hu
   have hr:=run_append_grow (P:=P) w t ty e i z ht hi hz ⟨g,0,none⟩ n cap xs hown.1 holds a m c news hl hnews (by omega) (by omega) (growslice_fits_wide (by omega) hbytes)
   have hge:=grownCap_ge w (n+m) cap e
   have hcm:=grownCap_le_maxLen w (n+m) cap e h63
   refine ⟨_,_,hr,⟨hlen,.inr ⟨w.heap.size,_,_,rfl,Nat.zero_le _,.new (heap_alloc_new w.drew _),hge,hcm,?_,?_⟩⟩,⟨rfl,rfl,rfl,by simp,fun k hk _=>Below.heap_alloc w.drew _ k hk⟩,Or.inr rfl⟩
   ·simp only [Array.size_append,List.size_toArray,size_zeroCells,hzs,hown.1,hl,← Nat.add_mul]
    congr 1
    omega
   ·simp only [Array.toList_append,List.append_assoc]
    rw [← List.append_assoc,← hlen]
    exact List.take_left
theorem append_ownW {w0 w:World} {F0 Z0 F Z:Nat→Prop} {u:Value} {ys:List T} {z:Value} {bytes:Nat} (hi:Inv w0 w F0 Z0 F Z H) (ht:P.underlying t=some (.slice e)) (hinfo:Info P e z c.sz bytes) (hzs:z.cells.size=c.sz) (hj:H[j]?=some (.own e c v xs)) (hc:Cells c Z w u ys) (hb:((xs.length+ys.length)+(xs.length+ys.length) / 4+192)*bytes≤281474976710656) (hb0:0<bytes) :
  ∃ v' w' F',(Builtin.append_ #[t,t] ty #[v,u]).run P w = .ok v' w'∧Inv w0 w' F0 Z0 F' Z (H.set j (.own e c v' (xs++ys)))∧Keep Z w w'∧∃ A n m,v' = .slice A n m:=by
 obtain ⟨i,i1,i2,i3,i4⟩:=hinfo.parts
 obtain ⟨A,m,hu,hA,hA'⟩:=hc
 obtain ⟨F1,hown,hF1⟩:=hi.res.at hj
 obtain ⟨A1,m1,hv1⟩:=own_sv hown
 cases A with
 | none =>
  have hys:=hA rfl
  subst hys hu
  obtain ⟨F',hi',hk⟩:=hi.turn (w':=w) (r':=.own e c v (xs++[])) hj fun G1 h1 _=>⟨G1,Step.refl _ _,by rw [List.append_nil];exact h1,fun _ x=>.inl x⟩
  refine ⟨v,w,F',?_,hi',hk,A1,_,m1,hv1⟩
  obtain ⟨cs,hr,_,_⟩ | ⟨rfl,A,rfl⟩:=hown
  case inr=>cases A <;> simp [Builtin.append_,run_underlying ht,sizeOf,typeInfo,i1,Builtin.lenOf,Builtin.firstCells,storeCells]
  rcases hr.2 with ⟨rfl,hn⟩ | ⟨g,cap,cur,rfl,_,_,hnc,_⟩
  ·simp [Builtin.append_,run_underlying ht,sizeOf,typeInfo,i1,Builtin.lenOf,Builtin.firstCells]
  ·simp [Builtin.append_,run_underlying ht,sizeOf,typeInfo,i1,Builtin.lenOf,Builtin.firstCells,hnc,storeCells]
 | some a =>
  obtain ⟨news,g1,g2,g3,g4⟩:=hA' a rfl
  have hle:(xs.length+ys.length)*1≤(xs.length+ys.length)*bytes:=Nat.mul_le_mul_left _ hb0
  have hq:(xs.length+ys.length)*bytes≤281474976710656:=Nat.le_trans (Nat.mul_le_mul_right _ (by omega)) hb
  by_cases hz0:ys=[]∧∃ B,v = .slice B 0 0
  ·obtain ⟨rfl,B,rfl⟩:=hz0
   obtain ⟨F',hi',hk⟩:=hi.turn (w':=w) (r':=.own e c (.slice B 0 0) (xs++[])) hj fun G1 h1 _=>⟨G1,Step.refl _ _,by rw [List.append_nil];exact h1,fun _ x=>.inl x⟩
   refine ⟨_,w,F',?_,hi',hk,_,_,_,rfl⟩
   subst hu
   have hn0:news=[]:=List.eq_nil_of_length_eq_zero (by simpa using g1)
   cases B <;> simp [Builtin.append_,run_underlying ht,sizeOf,typeInfo,i1,Builtin.lenOf,Builtin.firstCells,storeCells,loadCells,loadCellsFrom]
  have hv0:∃ v0 cs,rowOwn w e c.sz v0 xs.length cs∧Rows c Z w xs cs∧(∀ G1,(Res.own e c v xs).h Z w G1→∀ b,v0.ownBlock=some b→G1 b)∧(Builtin.append_ #[t,t] ty #[v,u]).run P w=(Builtin.append_ #[t,t] ty #[v0,u]).run P w:=by
   obtain ⟨cs,hr,hbk,hrows⟩ | ⟨rfl,B,rfl⟩:=hown
   ·by_cases h0:∃ B,v = .slice B 0 0
    ·obtain ⟨B,rfl⟩:=h0
     rcases hr.2 with ⟨hv,hn⟩ | ⟨g,cap,cur,hv,_,_,hnc,_⟩
     ·simp at hv;subst hv
      exact ⟨_,cs,hr,hrows,fun G1 _ b hb=>by simp [Value.ownBlock] at hb,rfl⟩
     ·simp at hv
      obtain ⟨rfl,hv2,rfl⟩:=hv
      have hx:xs=[]:=List.eq_nil_of_length_eq_zero hv2.symm
      subst hx
      have hc0:cs=[]:=List.eq_nil_of_length_eq_zero (by simpa using hr.1)
      subst hc0
      refine ⟨.slice none 0 0,[],⟨by simp,.inl ⟨rfl,rfl⟩⟩,hrows,fun G1 _ b hb=>by simp [Value.ownBlock] at hb,?_⟩
      exact append_emptyW ht i1 i2 i3 i4 (by intro h;subst h;exact hz0 ⟨rfl,_,rfl⟩) (by simpa using hb) g1 g2 hu hb0
    ·refine ⟨v,cs,hr,hrows,fun G1 hg b hb=>?_,rfl⟩
     obtain ⟨_,_,hbk',_⟩ | ⟨_,B,hB⟩:=hg
     ·exact hbk' b hb
     ·exact (h0 ⟨B,hB⟩).elim
   ·refine ⟨.slice none 0 0,[],⟨by simp,.inl ⟨rfl,rfl⟩⟩,by intro i x hx;simp at hx,fun G1 _ b hb=>by simp [Value.ownBlock] at hb,?_⟩
    cases B with
    | none=>rfl
    | some B=>exact append_emptyW ht i1 i2 i3 i4 (by intro h;subst h;exact hz0 ⟨rfl,_,rfl⟩) (by simpa using hb) g1 g2 hu hb0
  obtain ⟨v0,cs,hr,hrows,hbk,hrun⟩:=hv0
  obtain ⟨v',w',r1,r2,r3,r5⟩:=run_append_rowW (P:=P) w t ty e i z c.sz bytes ht i1 i2 i3 i4 hzs c.pos v0 xs.length cs hr a ys.length m news g1 g2 g4 (by rw [mx];omega) hb
  rw [← hu,← hrun] at r1
  obtain ⟨F',hi',hk⟩:=hi.turn (w':=w') (r':=.own e c v' (xs++ys)) hj fun G1 hown' hz1=>by
   have hbk':=hbk G1 hown'
   have s:=Step.of_grown r3 (run_drawn _ r1) G1 hbk'
   have hkz:Keep Z w w':=fun b hz=>s.keep b (hz1 b hz).1 (hz1 b hz).2
   refine ⟨fun b=>G1 b∨(w.heap.size≤b∧b<w'.heap.size),s,.inl ⟨cs++news,by rw [List.length_append];exact r2,fun b hb=>?_,(rows_append hrows g3 hr.1).st (fun _ x=>x) hkz⟩,fun _ x=>x⟩
   rcases r5 with e5 | e5
   ·exact .inl (hbk' b (e5 ▸ hb))
   ·rw [e5] at hb;cases hb
    refine .inr ⟨Nat.le_refl _,?_⟩
    rcases r2.2 with ⟨hv,_⟩ | ⟨g,cap,cur,hv,_,hh,_⟩
    ·rw [hv] at e5;cases e5
    ·rw [hv] at e5;simp [Value.ownBlock] at e5;subst e5
     obtain ⟨fz,hh,_⟩:=hh
     exact (Array.getElem?_eq_some_iff.1 hh).1
  refine ⟨v',w',F',r1,hi',hk,?_⟩
  rcases r2.2 with ⟨hv,_⟩ | ⟨g,cap,cur,hv,_⟩
  ·exact ⟨_,_,_,hv⟩
  ·exact ⟨_,_,_,hv⟩
theorem sApW {y u:Operand} {ys:List T} {z:Value} {bytes:Nat} (ht:P.underlying t=some (.slice e)) (hinfo:Info P e z c.sz bytes) (hzs:z.cells.size=c.sz) (hy:arg fr y=some (.sv v)) (hj:H[j]?=some (.own e c v xs)) (hu:arg fr u=some (.fsl c ys)) (hb:((xs.length+ys.length)+(xs.length+ys.length) / 4+192)*bytes≤281474976710656) (hb0:Nat.blt 0 bytes=true) (hdn:Nat.blt d n=true)
  (h:∀ v',SimL P f n ops l k ((d,.sv v')::fr) (H.set j (.own e c v' (xs++ys))) x X K):SimL P f n ops (⟨some d,.call ⟨.builtin .append,#[y,u],#[t,t]⟩,ty,pos,aft,none⟩::l) k fr H x X K:=by
 refine ba (I:=Value) (fun o ho hty w0 F0 Z0 w F Z ρ hinv hf=>?_) hdn h
 obtain ⟨e1,_⟩:=hf (by simp [Op.operands,Call.operands]) hy
 have e2:=cells_fsl (hf (by simp [Op.operands,Call.operands]) hu)
 obtain ⟨v',w',F',hr,hi',hk,hsl⟩:=append_ownW (ty:=ty) hinv ht hinfo hzs hj e2 hb (by simpa [Nat.blt_eq] using hb0)
 exact ⟨v',w',v',F',Z,by simp [execOp,ho,hty,e1,hr,resolve,invoke,builtin,Sem.run_bind],hi',fun _ x=>x,hk,rfl,hsl⟩
end
end S
namespace S
open Go.RowKit Go.MapKept
set_option linter.unusedVariables false
set_option linter.unusedSimpArgs false
set_option linter.unusedSectionVars false
theorem hold (w:World) (o:Obj) (r:Nat) (h:r<w.heap.size):(w.alloc o).heap[r]?=w.heap[r]?:=by
 show (w.heap.push o)[r]?=_
 rw [Array.getElem?_push,if_neg (Nat.ne_of_lt h)]
theorem wc {P:Program} {f:FuncId} {n:Nat} {k:List Item} {ρ R:Type} {x:Option ρ} {X:ρ→Option R} {K:R→AV→List Res→Prop} {c:Code} {σ:Type} (μ:σ→Nat) (fr:σ→Fr) (H:σ→List Res)
  (h:∀ s,(∀ s',μ s'<μ s→Sim P f n (.inLoop c::k) (fr s') (H s') x X K)→Sim P f n (.code c :: .inLoop c::k) (fr s) (H s) x X K) (s:σ):Sim P f n (.code (.loop c)::k) (fr s) (H s) x X K:=by
 have key:∀ m s,μ s<m→Sim P f n (.inLoop c::k) (fr s) (H s) x X K:=by
  intro m
  induction m with
  | zero=>intro s hs;exact absurd hs (Nat.not_lt_zero _)
  | succ m ih=>intro s hs r hr w0 F0 Z0 w F Z tmps hn hi hf;exact .inLoop (h s (fun s' hs'=>ih s' (by omega)) r hr w0 F0 Z0 w F Z tmps hn hi hf)
 intro r hr w0 F0 Z0 w F Z tmps hn hi hf
 exact .loop (h s (fun s' hs'=>key (μ s'+1) s' (by omega)) r hr w0 F0 Z0 w F Z tmps hn hi hf)
theorem fd {P:Program} {f:FuncId} {n:Nat} {k:List Item} {fr:Fr} {H:List Res} {ρ R:Type} {x:Option ρ} {X:ρ→Option R} {K:R→AV→List Res→Prop} (j:Nat) {r r':Res} (hj:H[j]?=some r) (hw:∀ Z w F,r.h Z w F→r'.h Z w F)
  (h:Sim P f n k fr (H.set j r') x X K):Sim P f n k fr H x X K:=by
 intro a ha w0 F0 Z0 w F Z tmps hn hi hf
 obtain ⟨F',hi',hk⟩:=hi.turn (w':=w) (r':=r') hj fun F1 h1 _=>⟨F1,Step.refl _ _,hw _ _ _ h1,fun _ x=>.inl x⟩
 exact h a ha w0 F0 Z0 w F' Z tmps hn hi' hf
section
variable {κ ν:Type} (ek:κ→Value) (ev:ν→Value)
def ItAt (w:World) (b r:Nat) (es left:List (κ×ν)) (cur:Option (κ×ν)):Prop :=
 ∃ ms clock seen,w.heap[b]?=some (.map ms clock)∧Stamped ms clock∧ms.toList.map (fun e=>(e.key,e.val))=es.map (fun p=>(ek p.1,ev p.2))∧w.heap[r]?=some (.mapIter (some b) clock seen clock) ∧
  (leftOf ms seen).toList.map (fun e=>(e.key,e.val))=left.map (fun p=>(ek p.1,ev p.2))∧∀ p,cur=some p→∃ e ∈ ms.toList,seen.back?=some e.born∧e.key=ek p.1∧e.val=ev p.2
def Res.it (b r:Nat) (es left:List (κ×ν)) (cur:Option (κ×ν)):Res :=
 ⟨fun Z w F=>F b∧F r∧b≠r∧ItAt ek ev w b r es left cur,fun hz hk ⟨hb,hr,hne,ms,clock,seen,h1,h2,h3,h4,h5⟩=>⟨hb,hr,hne,ms,clock,seen,(hk b (.inr hb)).trans h1,h2,h3,(hk r (.inr hr)).trans h4,h5⟩⟩
end
theorem it_mp {κ ν:Type} {ek:κ→Value} {ev:ν→Value} {b r:Nat} {es left:List (κ×ν)} {cur:Option (κ×ν)} (Z:Nat→Prop) (w:World) (F:Nat→Prop) (h:(Res.it ek ev b r es left cur).h Z w F):(Res.mp ek ev b es).h Z w F:=by
 obtain ⟨hb,_,_,ms,clock,_,h1,h2,h3,_⟩:=h
 exact ⟨hb,ms,clock,h1,h2,h3⟩
theorem map_erase {α β:Type} (g:α→β):∀ (l:List α) (i:Nat),(l.eraseIdx i).map g=(l.map g).eraseIdx i
 | [],_=>by simp
 | _::_,0=>rfl
 | a::l,i+1=>by simp [map_erase g l i]
theorem leftOf_none (ms:Array MapEntry):leftOf ms #[]=ms:=by unfold leftOf;exact Array.filter_eq_self.2 (by simp)
theorem run_next_at {P:Program} (w:World) (ty:TypeId) (r bm since c0:Nat) (seen:Array Nat) (es:Array MapEntry) (clock:Nat) (hr:w.heap[r]?=some (.mapIter (some bm) since seen c0)) (hb:w.heap[bm]?=some (.map es clock)) (hold:∀ x ∈ es.toList,x.born<since) (hsc:since≤c0) :
  ((leftOf es seen).size=0∧(Instr.next (.pointer (some ⟨r,0,none⟩)) false ty).run P w = .ok (.tuple #[.bool false]) w) ∨
  ∃ (j:Nat) (e:MapEntry) (q:Nat),(leftOf es seen).toList[j]?=some e∧(Instr.next (.pointer (some ⟨r,0,none⟩)) false ty).run P w = .ok (.tuple #[.bool true,e.key,e.val]) { w with drawn:=q,heap:=w.heap.setIfInBounds r (.mapIter (some bm) since (seen.push e.born) clock) }:=by
 simp only [Instr.next,getObj,Sem.run_bind,Sem.run,hr,hb,Result.andThen,next_test_false seen es since c0 hold hsc,Bool.false_eq_true,if_false]
 unfold leftOf
 have hmem:∀ x ∈ (Array.filter (fun e=>!seen.contains e.born) es).toList,x.born<since:=fun x hx=>hold x (by simp at hx ⊢;exact hx.1)
 generalize Array.filter (fun e=>!seen.contains e.born) es=L at hmem ⊢
 have e1:L.filter (fun x=>decide (x.born<since))=L:=Array.filter_eq_self.2 (fun x hx=>by simpa using hmem x (by simpa using hx))
 have e2:L.filter (fun x=>decide (x.born≥since))=#[]:=by
  rw [Array.filter_eq_empty_iff]
  intro x hx
  have:=hmem x (by simpa using hx)
  simp
  omega
 simp only [e1,e2,Array.append_empty]
 by_cases h0:L.size=0
 ·left
  have:L=#[]:=Array.eq_empty_of_size_eq_zero h0
  subst this
  refine ⟨rfl,?_⟩
  simp [choose,Sem.run,Question.forced]
 ·right
  have hne:L.isEmpty=false:=by simp [Array.isEmpty,h0]
  simp only [hne,Bool.false_eq_true,if_false,Array.empty_append,Array.size_map]
  have hch:∃ (j q:Nat),j<L.size∧(choose (Question.mapNext L.size)).run P w = .ok j { w with drawn:=q }:=by
   by_cases hf:L.size≤1
   ·exact ⟨0,w.drawn,by omega,by simp [choose,Sem.run,Question.forced,hf]⟩
   ·exact ⟨_,w.drawn+1,Nat.mod_lt _ (by omega),by
     simp only [choose,Sem.run,Question.forced,decide_eq_true_eq,hf,if_false,Question.cut]
     rfl⟩
  obtain ⟨j,q,hj,hrun⟩:=hch
  refine ⟨j,L[j],q,by simp [hj],?_⟩
  have hset:∀ o':Obj,(setObj r o').run P { w with drawn:=q } = .ok () { w with drawn:=q,heap:=w.heap.setIfInBounds r o' }:=fun o'=>by
   simp only [setObj,Sem.run,hr]
  simp only [hrun,Array.getElem?_map,Array.getElem?_eq_getElem hj,Option.map_some,Sem.run_bind,hset,Result.andThen]
  rfl
theorem left_push {ms:Array MapEntry} {seen:Array Nat} {clock j:Nat} {e:MapEntry} (hs:Stamped ms clock) (hj:(leftOf ms seen).toList[j]?=some e):(leftOf ms (seen.push e.born)).toList=(leftOf ms seen).toList.eraseIdx j:=by
 have hn:((leftOf ms seen).toList.map (·.born)).Nodup:=by
  have:=((stamped_iff ms clock).1 hs).2.1
  unfold leftOf
  rw [Array.toList_filter]
  exact (List.filter_sublist.map _).nodup this
 have e1:(leftOf ms (seen.push e.born)).toList=(leftOf ms seen).toList.filter (fun x=>!(x.born == e.born)):=by
  unfold leftOf
  simp only [Array.toList_filter,List.filter_filter]
  congr 1
  funext x
  by_cases hx:x.born=e.born <;> simp [hx,Bool.and_comm]
 rw [e1]
 generalize (leftOf ms seen).toList=l at hj hn
 clear e1
 induction l generalizing j with
 | nil=>simp at hj
 | cons a l ih =>
  obtain ⟨hna,hnl⟩:=List.nodup_cons.1 hn
  cases j with
  | zero =>
   simp at hj;subst hj
   simp only [List.filter_cons,beq_self_eq_true,Bool.not_true,Bool.false_eq_true,if_false,List.eraseIdx_cons_zero]
   exact List.filter_eq_self.2 fun x hx=>by
    have:x.born≠a.born:=fun q=>hna (List.mem_map.2 ⟨x,hx,q⟩)
    simp [this]
  | succ j =>
   have hj':l[j]?=some e:=by simpa using hj
   have hae:a.born≠e.born:=fun q=>hna (List.mem_map.2 ⟨e,List.mem_of_getElem? hj',q.symm⟩)
   have:(!(a.born == e.born))=true:=by simp [hae]
   rw [List.filter_cons,if_pos this,List.eraseIdx_cons_succ,ih hj' hnl]
section
variable {P:Program} {f:FuncId} {n:Nat} {ops:Array Oper} {l:List Oper} {k:List Item} {fr:Fr} {H:List Res} {ρ R:Type} {x:Option ρ} {X:ρ→Option R} {K:R→AV→List Res→Prop} {ty t kt et:TypeId} {d:Nat} {pos:String} {aft:Array Edge}
variable {κ ν:Type} {ek:κ→Value} {ev:ν→Value}
theorem zc {m:Operand} {b j:Nat} {es:List (κ×ν)} (ht:P.underlying t=some (.map kt et)) (hm:arg fr m=some (.lit (.map (some b)))) (hj:H[j]?=some (.mp ek ev b es)) (hdn:Nat.blt d n=true)
  (h:∀ r,SimL P f n ops l k ((d,.lit (.pointer (some ⟨r,0,none⟩)))::fr) (H.set j (.it ek ev b r es es none)) x X K):SimL P f n ops (⟨some d,.range t m,ty,pos,aft,none⟩::l) k fr H x X K:=by
 refine ba (I:=Nat) (av:=fun r=>.lit (.pointer (some ⟨r,0,none⟩))) (H':=fun r=>H.set j (.it ek ev b r es es none)) (fun o ho hty w0 F0 Z0 w F Z ρ hi hf=>?_) hdn h
 have e1:ρ m=_:=hf (by simp [Op.operands]) hm
 obtain ⟨F1,⟨hb,ms,clock,h1,h2,h3⟩,_⟩:=hi.res.at hj
 have s:=Step.alloc w (.mapIter (some b) clock #[] clock) (fun _=>False)
 have hbl:b<w.heap.size:=(Array.getElem?_eq_some_iff.1 h1).1
 obtain ⟨F',hi',hk⟩:=hi.turn (w':=w.alloc (.mapIter (some b) clock #[] clock)) (r':=.it ek ev b w.heap.size es es none) hj fun F1 ⟨hb,_⟩ _ =>
  ⟨fun c=>F1 c∨c=w.heap.size,Step.alloc w _ _,⟨.inl hb,.inr rfl,by omega,ms,clock,#[],(hold _ _ _ hbl).trans h1,h2,h3,heap_alloc_new w _,by rw [leftOf_none];exact h3,fun p hp=>by cases hp⟩,fun c hc=>hc.imp id fun e=>by subst e;exact ⟨Nat.le_refl _,by simp⟩⟩
 exact ⟨_,_,w.heap.size,F',Z,by simp only [execOp,ho,e1,run_range_map w t kt et b ms clock ht h1,Sem.run_bind,Result.andThen_ok,Sem.run_pure],hi',fun _ x=>x,hk,rfl⟩
theorem vd {m:Operand} {b r j:Nat} {es left:List (κ×ν)} {cur:Option (κ×ν)} (hm:arg fr m=some (.lit (.pointer (some ⟨r,0,none⟩)))) (hj:H[j]?=some (.it ek ev b r es left cur)) (hdn:Nat.blt d n=true)
  (h0:left=[]→SimL P f n ops l k ((d,.tup [Ab false])::fr) H x X K)
  (h1:∀ (i:Nat) (p:κ×ν),left[i]?=some p→SimL P f n ops l k ((d,.tup [Ab true,.lit (ek p.1),.lit (ev p.2)])::fr) (H.set j (.it ek ev b r es (left.eraseIdx i) (some p))) x X K) :
  SimL P f n ops (⟨some d,.next m false,ty,pos,aft,none⟩::l) k fr H x X K:=by
 refine ba (I:={ o:Option (Nat×(κ×ν)) // match o with | none=>left=[] | some (i,p)=>left[i]?=some p }) (av:=fun ι=>match ι.1 with | none=>.tup [Ab false] | some (_,p)=>.tup [Ab true,.lit (ek p.1),.lit (ev p.2)])
  (H':=fun ι=>match ι.1 with | none=>H | some (i,p)=>H.set j (.it ek ev b r es (left.eraseIdx i) (some p))) (fun o ho hty w0 F0 Z0 w F Z ρ hi hf=>?_) hdn (fun ι=>?_)
 ·have e1:ρ m=_:=hf (by simp [Op.operands]) hm
  obtain ⟨F1,⟨hb,hr,hne,ms,clock,seen,g1,g2,g3,g4,g5,_⟩,_⟩:=hi.res.at hj
  rcases run_next_at (P:=P) w o.type r b clock clock seen ms clock g4 g1 ((stamped_iff ms clock).1 g2).1 (Nat.le_refl _) with ⟨q0,hrun⟩ | ⟨i,e,q,hi1,hrun⟩
  ·have hl:left=[]:=by
    have:=congrArg List.length g5
    simp only [List.length_map,Array.length_toList] at this
    exact List.length_eq_zero_iff.1 (by omega)
   exact ⟨_,w,⟨none,hl⟩,F,Z,by simp only [execOp,ho,e1,hrun,Sem.run_bind,Result.andThen_ok,Sem.run_pure],hi,fun _ x=>x,fun _ _=>rfl,[_],rfl,.cons rfl .nil⟩
  ·obtain ⟨p,hp,k1,k2⟩:∃ p,left[i]?=some p∧e.key=ek p.1∧e.val=ev p.2:=by
    have:=congrArg (·[i]?) g5
    simp only [List.getElem?_map,hi1,Option.map_some] at this
    cases hp:left[i]? with
    | none=>rw [hp] at this;cases this
    | some p=>rw [hp] at this;simp only [Option.map_some,Option.some.injEq,Prod.mk.injEq] at this;exact ⟨p,rfl,this.1,this.2⟩
   have hem:e ∈ ms.toList:=by
    have:=List.mem_of_getElem? hi1
    unfold leftOf at this
    rw [Array.toList_filter] at this
    exact (List.mem_filter.1 this).1
   obtain ⟨F',hi',hk⟩:=hi.turn (w':={ w with drawn:=q,heap:=w.heap.setIfInBounds r (.mapIter (some b) clock (seen.push e.born) clock) }) (r':=.it ek ev b r es (left.eraseIdx i) (some p)) hj fun F1 ⟨hb,hr,hne,_⟩ _ =>
    ⟨F1,⟨rfl,rfl,rfl,run_drawn _ hrun,by simp,fun c _ hc=>by
     have:r≠c:=fun e=>hc (e ▸ hr)
     simp [this]⟩,⟨hb,hr,hne,ms,clock,seen.push e.born,by simpa [Ne.symm hne] using g1,g2,g3,(heap_set g4).1,by rw [left_push g2 hi1,map_erase,g5,map_erase],fun p' hp'=>by cases hp';exact ⟨e,hem,by simp,k1,k2⟩⟩,fun _ x=>.inl x⟩
   exact ⟨_,_,⟨some (i,p),hp⟩,F',Z,by simp only [execOp,ho,e1,hrun,Sem.run_bind,Result.andThen_ok,Sem.run_pure],hi',fun _ x=>x,hk,[_,_,_],rfl,.cons rfl (.cons k1 (.cons k2 .nil))⟩
 ·obtain ⟨o,ho⟩:=ι
  cases o with
  | none=>exact h0 ho
  | some q=>exact h1 q.1 q.2 ho
theorem jd {m:Operand} {b r j:Nat} {es left:List (κ×ν)} {p:κ×ν} (hm:arg fr m=some (.lit (.pointer (some ⟨r,0,none⟩)))) (hj:H[j]?=some (.it ek ev b r es left (some p))):D P n H (.entry m) ty fr (.tup [.lit (ek p.1),.lit (ev p.2)]) :=
 .of fun q ho hty w Z F ρ hH hf=>by
  have e1:ρ m=_:=hf (by simp [Op.operands]) hm
  obtain ⟨F1,⟨hb,hr,hne,ms,clock,seen,g1,g2,g3,g4,g5,g6⟩,_⟩:=hH.at hj
  obtain ⟨e,he,hs,k1,k2⟩:=g6 p rfl
  have hfind:ms.find? (·.born == e.born)=some e:=by rw [← Array.find?_toList];exact find_born e ms.toList ((stamped_iff ms clock).1 g2).2.1 he
  exact ⟨.tuple #[ek p.1,ev p.2],(by simp only [execOp,ho,e1,Instr.entry,getObj,Sem.run_bind,Sem.run,g4,g1,Result.andThen,hs,bne_self_eq_false,Bool.false_eq_true,if_false,hfind,k1,k2];rfl),[_,_],rfl,.cons rfl (.cons rfl .nil)⟩
end
end S
namespace S
open Go.RowKit
set_option linter.unusedVariables false
set_option linter.unusedSimpArgs false
set_option linter.unusedSectionVars false
theorem Inv.lend {H Hin:List Res} {js:List Nat} {w0 w:World} {F0 Z0 F Z:Nat→Prop} (hi:Inv w0 w F0 Z0 F Z H) (hpk:pickR H js=Hin) :
  ∃ F1:Nat→Prop,Inv w w F1 Z F1 Z Hin∧∀ (w'':World) (F' Z':Nat→Prop) (H':List Res),Inv w w'' F1 Z F' Z' H'→∃ F'',Inv w0 w'' F0 Z0 F'' Z' (H'++restR H js)∧Keep Z w w'':=by
 obtain ⟨F1,F2,h1,h2,d1,d2⟩:=hi.res.part js
 refine ⟨F1,⟨Base.refl _ _,fun _ x=>x,fun b hb=>⟨(hi.zin b hb).1,.inl hb⟩,fun b hb=>⟨(hi.fin b (d1 b hb).1).1,.inl hb,(hi.fin b (d1 b hb).1).2.2⟩,hpk ▸ h1⟩,fun w'' F' Z' H' hinv=>?_⟩
 have s:Step w w'' F1:=⟨hinv.base.os,hinv.base.tape,hinv.base.output,hinv.base.drawn,hinv.base.size,fun b hb hn=>hinv.base.keep b hb hn⟩
 have hk:Keep Z w w'':=hi.keepZ s fun b hb=>(d1 b hb).1
 have hzF:∀ b,Z' b→F2 b→False:=fun b hz hF=>by
  rcases (hinv.zin b hz).2 with y | y | y
  ·exact (hi.fin b (d2 b hF)).2.2 y
  ·exact (d1 b y).2 hF
  ·have:=(hi.fin b (d2 b hF)).1;omega
 refine ⟨fun b=>F' b∨F2 b,?_,hk⟩
 refine hi.step s (fun b hb=>(d1 b hb).1) hinv.z0 (fun b hb=>?_) (fun b hb=>?_) (hinv.res.append (h2.st hinv.z0 fun b hb=>s.keep b (hb.elim (fun x=>(hi.zin b x).1) (fun x=>(hi.fin b (d2 b x)).1)) fun hF=>?_) fun b hb hF=>?_)
 ·have:=hinv.zin b hb
  rcases this.2 with y | y | y
  ·exact .inl y
  ·exact .inr (.inl (d1 b y).1)
  ·exact .inr (.inr ⟨y,this.1⟩)
 ·rcases hb with hb | hb
  ·have:=hinv.fin b hb
   exact ⟨this.2.1.elim (fun z=>.inl (d1 b z).1) fun z=>.inr ⟨z,this.1⟩,this.2.2⟩
  ·exact ⟨.inl (d2 b hb),fun hz=>hzF b hz hb⟩
 ·rcases hb with x | x
  ·exact (hi.fin b (d1 b hF).1).2.2 x
  ·exact (d1 b hF).2 x
 ·rcases (hinv.fin b hb).2.1 with y | y
  ·exact (d1 b y).2 hF
  ·have:=(hi.fin b (d2 b hF)).1;omega
def Rounds (P:Program) (l:Nat) (avs:List AV) (H:List Res) (K:AV→List Res→Prop):Prop :=
 ∀ (w:World) (F Z:Nat→Prop) (vs:List Value),AllP Z w avs vs→Inv w w F Z F Z H→∃ fn tmps assign body,(Instr.yield l vs.toArray).run P w = .ok (.round l fn tmps assign body) w ∧
  RoundIn Fence.wide 0 P l fn tmps assign body w fun e w'=>∃ v,e = .returned v∧Done w F Z K v w'
theorem Run.round {P:Program} {f:FuncId} {k:List Item} {tmps:Array Value} {w:World} {R:Value→World→Prop} {ops:Array Oper} {i:Nat} {is:List Nat} {o:Oper} {l:Nat} {fn:FuncId} {tm:Array Value} {aS bd:Code} {w':World} {R1:Ending→World→Prop} (ho:ops[i]?=some o) (hw:Region.wanted o (yielded ops tmps)=true)
  (hr:(execOp (⟨tmps,[]⟩:Act).eval o).run P w = .ok (.round l fn tm aS bd) w') (hc:RoundIn Fence.wide 0 P l fn tm aS bd w' R1)
  (h:∀ e w'',R1 e w''→∃ v,e = .returned v∧Run P f (.inRegion ops is::k) (putT tmps o.dst v) w'' R):Run P f (.inRegion ops (i::is)::k) tmps w R:=by
 intro b cs hb hk
 have hg:=stepG_op (P:=P) (b:=b) (a:=⟨tmps,[]⟩) (k:=k) (cs:=cs) (w:=w) (rest:=is) ho hw
 have hfin:∀ v,(b.at ⟨tmps,[]⟩ (.inRegion ops (i::is)::k)).finish v=b.at ⟨putT tmps o.dst v,[]⟩ (.inRegion ops is::k):=by
  intro v;rw [Frame.finish_at,ho];simp only [Option.bind_some,put_act];cases o.dst <;> rfl
 obtain ⟨e,w'',hR,hsteps⟩:=hc.2 (b.at ⟨tmps,[]⟩ (.inRegion ops (i::is)::k)) cs (room_wide _)
 have henter:step P (lone (b.at ⟨tmps,[]⟩ (.inRegion ops (i::is)::k)) cs w) = .next (lone (Frame.round l fn tm aS bd .normal) (b.at ⟨tmps,[]⟩ (.inRegion ops (i::is)::k)::cs) w') :=
  step_lone_go (by rw [hg];simp [stepG.apply,hr,Frame.at])
 obtain ⟨v,rfl,hrun⟩:=h e w'' hR
 obtain ⟨v2,w3,fr2,r,st,x⟩:=hrun b cs hb hk
 refine ⟨v2,w3,fr2,r,Steps.head henter (Steps.trans (ComesIn.comes hsteps) ?_),x⟩
 simp only [hfin];exact st
section
variable {P:Program} {f:FuncId} {n:Nat} {ops:Array Oper} {l:List Oper} {k:List Item} {fr:Fr} {H:List Res} {ρ R:Type} {x:Option ρ} {X:ρ→Option R} {K:R→AV→List Res→Prop} {ty t:TypeId} {d:Nat} {pos:String} {aft:Array Edge}
theorem pb {g:FuncId} {y:Operand} {args:Array Operand} {ts:Array TypeId} {avs:List AV} {Hin:List Res} {K1:AV→List Res→Prop} (js:List Nat) (hg:Ent P g) (hy:arg fr y=some (.lit (.func (.func g) #[] #[]))) (hp:Spec P g avs Hin K1) (hpk:pickR H js=Hin) (ha:ArgsS fr args.toList avs) (hdn:Nat.blt d n=true)
  (h:∀ av H',K1 av H'→SimL P f n ops l k ((d,av)::fr) (H'++restR H js) x X K):SimL P f n ops (⟨some d,.call ⟨.value y,args,ts⟩,ty,pos,aft,none⟩::l) k fr H x X K:=by
 intro is hs r' hr w0 F0 Z0 w F Z tmps hn hi hf
 cases is with
 | nil=>simp at hs
 | cons i is =>
  simp only [List.map_cons,List.cons.injEq] at hs
  have hdn':d<n:=by simpa [Nat.blt_eq] using hdn
  have all:∀ {x:Operand} {a:AV},arg fr x=some a→a.p Z w ((⟨tmps,[]⟩:Act).eval x):=by
   intro x a hx
   cases x with
   | tmp t=>exact hf t a hx
   | const v=>simp [arg] at hx;subst hx;rfl
   | func g=>simp [arg] at hx;subst hx;rfl
   | global g=>simp [arg] at hx;subst hx;rfl
  have hargs:=argsS_ok (ρ:=(⟨tmps,[]⟩:Act).eval) ha fun {x a} _ hx=>all hx
  obtain ⟨F1,hin,hback⟩:=hi.lend hpk
  refine .enter hs.1 (wanted_none rfl) (call_run' (all hy) rfl hg) (hp w F1 Z _ hargs hin) ?_
  rintro e w'' ⟨v,rfl,F',Z',av,H',hK,hinv,hv⟩
  obtain ⟨F'',hi',hk⟩:=hback w'' F' Z' H' hinv
  exact ⟨v,rfl,h av H' hK is hs.2 r' hr w0 F0 Z0 w'' F'' Z' _ (by simpa [putT] using hn) hi' ((hf.st hinv.z0 hk).put (by omega) hv)⟩
theorem vc {lb:Nat} {y:Operand} {args:Array Operand} {ts:Array TypeId} {avs:List AV} {Hin:List Res} {K1:AV→List Res→Prop} (js:List Nat) (hy:arg fr y=some (.lit (.func (.yield lb) #[] #[]))) (hp:Rounds P lb avs Hin K1) (hpk:pickR H js=Hin) (ha:ArgsS fr args.toList avs) (hdn:Nat.blt d n=true)
  (h:∀ av H',K1 av H'→SimL P f n ops l k ((d,av)::fr) (H'++restR H js) x X K):SimL P f n ops (⟨some d,.call ⟨.value y,args,ts⟩,ty,pos,aft,none⟩::l) k fr H x X K:=by
 intro is hs r' hr w0 F0 Z0 w F Z tmps hn hi hf
 cases is with
 | nil=>simp at hs
 | cons i is =>
  simp only [List.map_cons,List.cons.injEq] at hs
  have hdn':d<n:=by simpa [Nat.blt_eq] using hdn
  have all:∀ {x:Operand} {a:AV},arg fr x=some a→a.p Z w ((⟨tmps,[]⟩:Act).eval x):=by
   intro x a hx
   cases x with
   | tmp t=>exact hf t a hx
   | const v=>simp [arg] at hx;subst hx;rfl
   | func g=>simp [arg] at hx;subst hx;rfl
   | global g=>simp [arg] at hx;subst hx;rfl
  have hargs:=argsS_ok (ρ:=(⟨tmps,[]⟩:Act).eval) ha fun {x a} _ hx=>all hx
  obtain ⟨F1,hin,hback⟩:=hi.lend hpk
  obtain ⟨fn,tm,aS,bd,hyr,hround⟩:=hp w F1 Z _ hargs hin
  have e1:(⟨tmps,[]⟩:Act).eval y = .func (.yield lb) #[] #[]:=all hy
  refine .round hs.1 (wanted_none rfl) (l:=lb) (fn:=fn) (tm:=tm) (aS:=aS) (bd:=bd) (w':=w) ?_ hround ?_
  ·have e2:#[]++args.map (⟨tmps,[]⟩:Act).eval=(args.toList.map (⟨tmps,[]⟩:Act).eval).toArray:=by apply Array.ext';simp
   simp only [execOp,resolve,e1,Deferred.ofValue,invoke,Sem.run_bind,Sem.run_pure,Result.andThen_ok,e2,hyr]
  ·rintro e w'' ⟨v,rfl,F',Z',av,H',hK,hinv,hv⟩
   obtain ⟨F'',hi',hk⟩:=hback w'' F' Z' H' hinv
   exact ⟨v,rfl,h av H' hK is hs.2 r' hr w0 F0 Z0 w'' F'' Z' _ (by simpa [putT] using hn) hi' ((hf.st hinv.z0 hk).put (by omega) hv)⟩
end
end S
namespace S
open Go.RowKit
set_option linter.unusedVariables false
set_option linter.unusedSimpArgs false
set_option linter.unusedSectionVars false
def Res.obj (b:Nat) (o:Obj):Res:=⟨fun Z w F=>F b∧w.heap[b]?=some o,fun hz hk h=>⟨h.1,(hk b (.inr h.1)).trans h.2⟩⟩
section
variable {P:Program} {n:Nat} {ops:Array Oper} {fr:Fr} {H:List Res} {Fe:Fence} {m0:Nat} {ds:List Deferred} {Q:Exit→Act→World→Prop} {w0:World} {F0 Z0:Nat→Prop}
def WL (P:Program) (Fe:Fence) (m0:Nat) (ds:List Deferred) (n:Nat) (ops:Array Oper) (Q:Exit→Act→World→Prop) (w0:World) (F0 Z0:Nat→Prop) (js:List Nat) (fr:Fr) (H:List Res):Prop :=
 ∀ (w:World) (F Z:Nat→Prop) (tmps:Array Value),tmps.size=n→Inv w0 w F0 Z0 F Z H→FrOk fr Z w tmps→wpOpsIn Fe m0 P ops Q js ⟨tmps,ds⟩ w
theorem wp_value (hF:∀ f,Fe.fn f) {i:Nat} {js:List Nat} {o:Oper} {tmps:Array Value} {w w':World} {v:Value} (ho:ops[i]?=some o) (hg:o.guard=none) (hnd:∀ c,o.op≠.defer c) (hr:(execOp (⟨tmps,[]⟩:Act).eval o).run P w = .ok (.value v) w')
  (h:wpOpsIn Fe m0 P ops Q js ⟨putT tmps o.dst v,ds⟩ w'):wpOpsIn Fe m0 P ops Q (i::js) ⟨tmps,ds⟩ w:=by
 simp only [wpOpsIn,ho,wanted_none hg,if_true]
 refine ⟨fun f _=>hF f,?_⟩
 rw [Oper.semAt_eq _ _ _ hnd,show (⟨tmps,ds⟩:Act).eval=(⟨tmps,[]⟩:Act).eval from funext fun x=>by cases x <;> rfl,hr]
 show wpOpsIn Fe m0 P ops Q js ((⟨tmps,ds⟩:Act).put o.dst v) w'
 rw [show (⟨tmps,ds⟩:Act).put o.dst v=⟨putT tmps o.dst v,ds⟩ from by cases o.dst <;> rfl]
 exact h
theorem wp_skip (hF:∀ f,Fe.fn f) {i:Nat} {js:List Nat} {o:Oper} {tmps:Array Value} {w w':World} (ho:ops[i]?=some o) (hg:o.guard=none) (hnd:∀ c,o.op≠.defer c) (hd:o.dst=none) (hr:(execOp (⟨tmps,[]⟩:Act).eval o).run P w = .ok .skip w')
  (h:wpOpsIn Fe m0 P ops Q js ⟨tmps,ds⟩ w'):wpOpsIn Fe m0 P ops Q (i::js) ⟨tmps,ds⟩ w:=by
 simp only [wpOpsIn,ho,wanted_none hg,if_true]
 refine ⟨fun f _=>hF f,?_⟩
 rw [Oper.semAt_eq _ _ _ hnd,show (⟨tmps,ds⟩:Act).eval=(⟨tmps,[]⟩:Act).eval from funext fun x=>by cases x <;> rfl,hr]
 show wpOpsIn Fe m0 P ops Q js ((⟨tmps,ds⟩:Act).put o.dst undef) w'
 rw [hd];exact h
theorem wV (hF:∀ f,Fe.fn f) {i d:Nat} {js:List Nat} {op:Op} {ty:TypeId} {pos:String} {aft:Array Edge} {I:Type} {av:I→AV} {H':I→List Res}
  (hop:∀ (o:Oper),o.op=op→o.type=ty→∀ (w0:World) (F0 Z0:Nat→Prop) (w:World) (F Z:Nat→Prop) (ρ:Operand→Value),Inv w0 w F0 Z0 F Z H→Rho op fr Z w ρ →
   ∃ v w' ι F' Z',(execOp ρ o).run P w = .ok (.value v) w'∧Inv w0 w' F0 Z0 F' Z' (H' ι)∧(∀ b,Z b→Z' b)∧Keep Z w w'∧(av ι).p Z' w' v)
  (ho:ops[i]?=some ⟨some d,op,ty,pos,aft,none⟩) (hnd:∀ c,op≠.defer c) (hdn:d<n) (h:∀ ι,WL P Fe m0 ds n ops Q w0 F0 Z0 js ((d,av ι)::fr) (H' ι)):WL P Fe m0 ds n ops Q w0 F0 Z0 (i::js) fr H:=by
 intro w F Z tmps hn hi hf
 obtain ⟨v,w',ι,F',Z',hr,hi',hz,hk,hv⟩:=hop ⟨some d,op,ty,pos,aft,none⟩ rfl rfl w0 F0 Z0 w F Z (⟨tmps,[]⟩:Act).eval hi fun hm hx=>arg_ok (hf.on _) hx hm
 refine wp_value hF ho rfl hnd hr ?_
 exact h ι w' F' Z' _ (by simpa [putT] using hn) hi' ((hf.st hz hk).put (by omega) hv)
theorem wE0 (hF:∀ f,Fe.fn f) {i:Nat} {js:List Nat} {op:Op} {ty:TypeId} {pos:String} {aft:Array Edge} {H':List Res}
  (hop:∀ (o:Oper),o.op=op→∀ (w0:World) (F0 Z0:Nat→Prop) (w:World) (F Z:Nat→Prop) (ρ:Operand→Value),Inv w0 w F0 Z0 F Z H→Rho op fr Z w ρ →
   ∃ w' F' Z',(execOp ρ o).run P w = .ok .skip w'∧Inv w0 w' F0 Z0 F' Z' H'∧(∀ b,Z b→Z' b)∧Keep Z w w')
  (ho:ops[i]?=some ⟨none,op,ty,pos,aft,none⟩) (hnd:∀ c,op≠.defer c) (h:WL P Fe m0 ds n ops Q w0 F0 Z0 js fr H'):WL P Fe m0 ds n ops Q w0 F0 Z0 (i::js) fr H:=by
 intro w F Z tmps hn hi hf
 obtain ⟨w',F',Z',hr,hi',hz,hk⟩:=hop ⟨none,op,ty,pos,aft,none⟩ rfl w0 F0 Z0 w F Z (⟨tmps,[]⟩:Act).eval hi fun hm hx=>arg_ok (hf.on _) hx hm
 exact wp_skip hF ho rfl hnd rfl hr (h w' F' Z' _ hn hi' (hf.st hz hk))
theorem wQ (hF:∀ f,Fe.fn f) {i d:Nat} {js:List Nat} {op:Op} {ty:TypeId} {pos:String} {aft:Array Edge} {av:AV} (hD:D P n H op ty fr av) (hne:∀ (ρ:Operand→Value) (o:Oper) (w:World) g args w',o.op=op→(execOp ρ o).run P w≠.ok (.enter g args) w')
  (ho:ops[i]?=some ⟨some d,op,ty,pos,aft,none⟩) (hnd:∀ c,op≠.defer c) (hdn:d<n) (h:WL P Fe m0 ds n ops Q w0 F0 Z0 js ((d,av)::fr) H):WL P Fe m0 ds n ops Q w0 F0 Z0 (i::js) fr H:=by
 intro w F Z tmps hn hi hf
 rcases hD ⟨some d,op,ty,pos,aft,none⟩ rfl rfl w0 F0 Z0 w F Z tmps hn hi (hf.on _) with ⟨v,w',hr,Z',hz,hz',hs,hv⟩ | ⟨g,args,w',R1,hr,_⟩
 ·refine wp_value hF ho rfl hnd hr ?_
  exact h w' F Z' _ (by simpa [putT] using hn) (hi.quiet hs hz hz') ((hf.st hz (hi.keepZ hs fun _ x=>x.elim)).put (by omega) hv)
 ·exact absurd hr (hne _ _ _ _ _ _ rfl)
theorem ne_load {t:TypeId} {y:Operand} (ρ:Operand→Value) (o:Oper) (w:World) (g:FuncId) (args:Array Value) (w':World) (h:o.op = .load t y):(execOp ρ o).run P w≠.ok (.enter g args) w':=by
 simp only [execOp,h,Sem.run_bind]
 cases (Instr.loadAt t (ρ y)).run P w <;> simp [Result.andThen]
theorem ne_buildSlice {t:TypeId} {m:Nat} {ps:Array (Nat×Operand)} (ρ:Operand→Value) (o:Oper) (w:World) (g:FuncId) (args:Array Value) (w':World) (h:o.op = .buildSlice t m ps):(execOp ρ o).run P w≠.ok (.enter g args) w':=by
 simp only [execOp,h,Sem.run_bind]
 cases (Instr.buildSlice t m (ps.map fun (i,x)=>(i,ρ x))).run P w <;> simp [Result.andThen]
theorem Inv.put {w:World} {F Z:Nat→Prop} {j b:Nat} {o o':Obj} (hi:Inv w0 w F0 Z0 F Z H) (hj:H[j]?=some (.obj b o)):∃ F',Inv w0 (w.putObj b o') F0 Z0 F' Z (H.set j (.obj b o'))∧Keep Z w (w.putObj b o'):=by
 refine hi.turn hj fun F1 h1 _=>⟨F1,⟨rfl,rfl,rfl,Nat.le_refl _,by simp [World.putObj],fun c _ hc=>?_⟩,⟨h1.1,?_⟩,fun _ x=>.inl x⟩
 ·have:b≠c:=fun e=>hc (e ▸ h1.1)
  simp [World.putObj,this]
 ·have hlt:b<w.heap.size:=(Array.getElem?_eq_some_iff.1 h1.2).1
  simp [World.putObj,hlt]
end
theorem apRound {P:Program} {T:Type} {c:Co T} {tS tE:TypeId} {zs:List Value} {az:List AV} {z:Value} {bytes Bs l:Nat} {rec:Loop} {v:Value} {ss:List T} {x:T} {i1 i2 i3:Nat} {t1 t2 t3 t4 t5 t6 t7:TypeId} {p1 p2 p3 p4 p5 p6 p7:String} {a1 a2 a3 a4 a5 a6 a7:Array Edge}
  (ht:P.underlying tS=some (.slice tE)) (hgS:IsAgg P tS false) (hzS:SizeIs P tS 1) (hgE:IsAgg P tE true) (hzE:SizeIs P tE c.sz) (hinfo:Info P tE z c.sz bytes) (hzs:z.cells.size=c.sz) (hb0:0<bytes) (hmx:Nat.ble (1*c.sz) 16777216=true)
  (hal:∀ w,(Instr.alloc tE true (.tuple #[])).run P w = .ok (.pointer (some ⟨w.heap.size,0,none⟩)) (w.alloc (.cells zs.toArray tE))) (haz:∀ Z w,AllP Z w az zs) (hazl:az.length=c.sz)
  (hsz:rec.tmps.size=13) (hBs:rec.tmps.getD 2 undef = .pointer (some ⟨Bs,0,none⟩)) (hps:rec.params=#[7]) (hst:rec.state = .ready) (hpe:rec.pending=none)
  (has:rec.assign = .region i2 #[⟨some 5,.alloc tE,t1,p1,a1,none⟩,⟨none,.store tE (.tmp 5) (.tmp 7),t2,p2,a2,none⟩] false)
  (hbd:rec.body = .block i1 (.region i3 #[⟨some 8,.load tS (.tmp 2),t3,p3,a3,none⟩,⟨some 9,.load tE (.tmp 5),t4,p4,a4,none⟩,⟨some 10,.buildSlice tS 1 #[(0,.tmp 9)],t5,p5,a5,none⟩,⟨some 11,.call ⟨.builtin .append,#[.tmp 8,.tmp 10],#[tS,tS]⟩,t6,p6,a6,none⟩,⟨none,.store tS (.tmp 2) (.tmp 11),t7,p7,a7,none⟩] false))
  (hb:(ss.length+1)*bytes≤140737488355328) :
  Rounds P l [.agg (c.e x)] [.box Bs [.sv v],.own tE c v ss,.obj l (.loop rec)] fun a H=>∃ v',a=Ab true∧H=[.box Bs [.sv v'],.own tE c v' (ss++[x]),.obj l (.loop rec)]:=by
 intro w F Z vs hvs hi
 cases hvs with
 | @cons _ vx _ vs' hvx hvs' =>
 cases hvs'
 obtain ⟨_,⟨_,hL⟩,_⟩:=hi.res.at (j:=2) rfl
 refine ⟨rec.fn,rec.tmps.setIfInBounds 7 vx,rec.assign,rec.body,by have:=run_yield (P:=P) (args:=#[vx]) hL (by rw [hps];rfl);rw [hps] at this;simpa using this,roundIn_of_wpIn trivial ?_⟩
 have hf0:FrOk [(2,AV.lit (.pointer (some ⟨Bs,0,none⟩)))] Z w rec.tmps:=by
  intro t a hta
  simp only [look] at hta
  by_cases e':2=t
  ·subst e';simp at hta;subst hta;exact hBs
  ·have:(2 == t)=false:=by simpa using e'
   rw [this] at hta;cases hta
 have hf1:=hf0.put (d:=7) (by omega) hvx
 rw [has]
 refine wpIn_region ?_
 rw [show List.range (#[(⟨some 5,.alloc tE,t1,p1,a1,none⟩:Oper),⟨none,.store tE (.tmp 5) (.tmp 7),t2,p2,a2,none⟩]:Array Oper).size=[0,1] from rfl]
 have hsp:splice az 0 (c.e x)=c.e x:=by
  simp [splice,hazl,c.len]
 refine (show WL P (Fence.wide.inRound l) 0 [] 13 _ _ w F Z [0,1] _ _ from
  wV (fun _=>trivial) (d:=5) (I:=Nat) (av:=fun b=>.lit (.pointer (some ⟨b,0,none⟩))) (H':=fun b=>.box b az::[.box Bs [.sv v],.own tE c v ss,.obj l (.loop rec)]) (fun o ho hty w0 F0 Z0 w F Z ρ hi hf=>⟨.pointer (some ⟨w.heap.size,0,none⟩),w.alloc (.cells zs.toArray tE),w.heap.size,_,Z,by simp [execOp,ho,hal w,Sem.run_bind],hi.push _ (.box w.heap.size az) ⟨rfl,zs,tE,alloc_cells w zs tE,haz _ _⟩,fun _ x=>x,(Step.alloc w _ _).keep' hi,rfl⟩) rfl (fun c h=>by cases h) (by omega) fun b0 =>
  wE0 (fun _=>trivial) (stB_op (j:=0) (bs:=c.e x) hzE rfl rfl rfl cAgg (c.one x) (c.len x) (by rw [hazl];omega)) rfl (fun c h=>by cases h) fun w2 F2 Z2 tmps2 hn2 hi2 hf2=>?_) w F Z _ (by simpa using hsz) hi hf1
 rw [hsp] at hi2
 simp only [List.set_cons_zero] at hi2
 obtain ⟨_,⟨_,hL2⟩,_⟩:=hi2.res.at (j:=3) rfl
 obtain ⟨F3,hi3,hk3⟩:=hi2.put (j:=3) (o':=.loop { rec with state:=.busy }) rfl
 refine ⟨_,run_beginRound hL2 hst,?_⟩
 have hrec:({ { rec with state:=.busy } with state:=if (none:Option Code).isNone then .ready else .done,pending:=none }:Loop)=rec:=by
  cases rec;simp_all
 generalize ({ rec with state:=.busy }:Loop)=rb at hi3 hk3 hrec ⊢
 rw [hbd]
 refine wpIn_block (wpIn_region ?_)
 have hf3:=hf2.st (fun _ x=>x) hk3
 simp only [List.set_cons_succ,List.set_cons_zero] at hi3
 refine (show WL P (Fence.wide.inRound l) 0 [] 13 _ _ w F Z [0,1,2,3,4] _ _ from
  wQ (fun _=>trivial) (d:=8) (k7 (j:=1) (a:=.sv v) hgS rfl rfl rfl) ne_load rfl (fun c h=>by cases h) (by omega) <|
  wQ (fun _=>trivial) (d:=9) (av:=.agg (c.e x)) (by have:=j7 (P:=P) (n:=13) (ty:=t4) (t:=tE) (y:=.tmp 5) (o:=0) (j:=0) (fr:=(8,AV.sv v)::(5,.lit (.pointer (some ⟨b0,0,none⟩)))::(7,.agg (c.e x))::[(2,AV.lit (.pointer (some ⟨Bs,0,none⟩)))]) (H:=[.box b0 (c.e x),.box Bs [.sv v],.own tE c v ss,.obj l (.loop rb)]) hgE hzE rfl rfl (by rw [c.len];omega);rw [List.drop_zero,List.take_of_length_le (by rw [c.len];exact Nat.le_refl _)] at this;exact this) ne_load rfl (fun c h=>by cases h) (by omega) <|
  wQ (fun _=>trivial) (d:=10) (dBS (c:=c) (xs:=[x]) ht hzE hinfo (.c rfl cAgg .nil) (by rw [Bool.and_eq_true];exact ⟨rfl,hmx⟩)) ne_buildSlice rfl (fun c h=>by cases h) (by omega) <|
  wV (fun _=>trivial) (d:=11) (I:=Value) (av:=fun v'=>.sv v') (H':=fun v'=>[.box b0 (c.e x),.box Bs [.sv v],.own tE c v' (ss++[x]),.obj l (.loop rb)]) (fun o ho hty w0 F0 Z0 w F Z ρ hinv hf=>by
   obtain ⟨e1,_⟩:=hf (x:=.tmp 8) (a:=.sv v) (by simp [Op.operands,Call.operands]) rfl
   have e2:=cells_fsl (hf (x:=.tmp 10) (a:=.fsl c [x]) (by simp [Op.operands,Call.operands]) rfl)
   obtain ⟨v',w',F',hr,hi',hk,hsl⟩:=append_own (j:=2) (ty:=t6) hinv ht hinfo hzs rfl e2 hb hb0
   exact ⟨v',w',v',F',Z,by simp [execOp,ho,hty,e1,hr,resolve,invoke,builtin,Sem.run_bind],hi',fun _ x=>x,hk,rfl,hsl⟩) rfl (fun c h=>by cases h) (by omega) fun v' =>
  wE0 (fun _=>trivial) (stB_op (j:=1) (bs:=[.sv v']) hzS rfl rfl rfl (cOne oSv) ⟨oSv,trivial⟩ rfl (by simp)) rfl (fun c h=>by cases h) fun w4 F4 Z4 tmps4 hn4 hi4 hf4=>?_) _ F3 Z2 tmps2 hn2 hi3 hf3
 simp only [List.set_cons_succ,List.set_cons_zero] at hi4
 obtain ⟨_,⟨_,hL4⟩,_⟩:=hi4.res.at (j:=3) rfl
 obtain ⟨F5,hi5,hk5⟩:=hi4.put (j:=3) (o':=.loop rec) rfl
 refine ⟨_,_,run_endRound none hL4,?_⟩
 rw [hrec]
 refine ⟨_,rfl,F5,Z4,Ab true,_,⟨v',rfl,rfl⟩,hi5.less (·.pickR [1,1,1]),rfl⟩
end S
namespace S
open Go.RowKit
set_option linter.unusedVariables false
set_option linter.unusedSimpArgs false
set_option linter.unusedSectionVars false
set_option maxRecDepth 100000
structure KeysTy (P:Program) {κ ν:Type} (c:Co κ) (ek:κ→Value) (ev:ν→Value) (tM kt et tS:TypeId) (zs:List Value) (az:List AV) (z:Value) (bytes:Nat):Prop where
 ht:P.underlying tM=some (.map kt et)
 gM:IsAgg P tM false
 hS:P.underlying tS=some (.slice kt)
 gS:IsAgg P tS false
 zS:SizeIs P tS 1
 gE:IsAgg P kt true
 zE:SizeIs P kt c.sz
 info:Info P kt z c.sz bytes
 zz:z.cells.size=c.sz
 b0:0<bytes
 mx:Nat.ble (1*c.sz) 16777216=true
 al:∀ w,(Instr.alloc kt true (.tuple #[])).run P w = .ok (.pointer (some ⟨w.heap.size,0,none⟩)) (w.alloc (.cells zs.toArray kt))
 azp:∀ Z w,AllP Z w az zs
 azl:az.length=c.sz
 cell:∀ k,CellsOf (.lit (ek k)) (c.e k)
structure ApRec (tS kt:TypeId) (Bs:Nat) (rec:Loop):Prop where
 sz:rec.tmps.size=13
 box:rec.tmps.getD 2 undef = .pointer (some ⟨Bs,0,none⟩)
 par:rec.params=#[7]
 st:rec.state = .ready
 pe:rec.pending=none
 aS:∃ i2 t1 p1 a1 t2 p2 a2,rec.assign = .region i2 #[⟨some 5,.alloc kt,t1,p1,a1,none⟩,⟨none,.store kt (.tmp 5) (.tmp 7),t2,p2,a2,none⟩] false
 bd:∃ i1 i3 t3 p3 a3 t4 p4 a4 t5 p5 a5 t6 p6 a6 t7 p7 a7,rec.body = .block i1 (.region i3 #[⟨some 8,.load tS (.tmp 2),t3,p3,a3,none⟩,⟨some 9,.load kt (.tmp 5),t4,p4,a4,none⟩,⟨some 10,.buildSlice tS 1 #[(0,.tmp 9)],t5,p5,a5,none⟩,⟨some 11,.call ⟨.builtin .append,#[.tmp 8,.tmp 10],#[tS,tS]⟩,t6,p6,a6,none⟩,⟨none,.store tS (.tmp 2) (.tmp 11),t7,p7,a7,none⟩] false)
section
variable {P:Program} {κ ν:Type} {c:Co κ} {ek:κ→Value} {ev:ν→Value} {tM kt et tS:TypeId} {zs:List Value} {az:List AV} {z:Value} {bytes:Nat}
theorem rounds_of (Y:KeysTy P c ek ev tM kt et tS zs az z bytes) {Bs l:Nat} {rec:Loop} (A:ApRec tS kt Bs rec) {v:Value} {ss:List κ} (x:κ) (hb:(ss.length+1)*bytes≤140737488355328) :
  Rounds P l [.agg (c.e x)] [.box Bs [.sv v],.own kt c v ss,.obj l (.loop rec)] fun a H=>∃ v',a=Ab true∧H=[.box Bs [.sv v'],.own kt c v' (ss++[x]),.obj l (.loop rec)]:=by
 obtain ⟨i2,t1,p1,a1,t2,p2,a2,has⟩:=A.aS
 obtain ⟨i1,i3,t3,p3,a3,t4,p4,a4,t5,p5,a5,t6,p6,a6,t7,p7,a7,hbd⟩:=A.bd
 exact apRound Y.hS Y.gS Y.zS Y.gE Y.zE Y.info Y.zz Y.b0 Y.mx Y.al Y.azp Y.azl A.sz A.box A.par A.st A.pe has hbd hb
theorem perm_erase {α:Type}:∀ {l:List α} {i:Nat} {a:α},l[i]?=some a→l.Perm (a::l.eraseIdx i)
 | b::l,0,a,h=>by simp at h;subst h;exact List.Perm.refl _
 | b::l,i+1,a,h=>by
  have:=perm_erase (l:=l) (i:=i) (a:=a) (by simpa using h)
  exact ((this.cons b).trans (List.Perm.swap ..))
set_option maxHeartbeats 1000000 in
theorem keysIter (Y:KeysTy P c ek ev tM kt et tS zs az z bytes) {Bs l b:Nat} {rec:Loop} (A:ApRec tS kt Bs rec) {v:Value} {es:List (κ×ν)} (hbd:es.length*bytes≤140737488355328)
  {g:FuncId} {fn:Func} {i0 i2 i4 i5:Nat} {t1 t2 t3 t4 t5 t6 t7 t8 t9 t10 t11 t12 t13:TypeId} {q:Array TypeId} {p1 p2 p3 p4 p5 p6 p7 p8 p9 p10 p11 p12:String} {a1 a2 a3 a4 a5 a6 a7 a8 a9 a10 a11 a12:Array Edge}
  (hf:P.funcs[g]?=some fn) (hn:fn.ntmps=14) (hr:fn.results=#[])
  (hb:fn.body=some (.seq (.region i0 #[⟨some 4,.load tM (.tmp 1),t1,p1,a1,none⟩,⟨some 5,.range tM (.tmp 4),t2,p2,a2,none⟩] false)
   (.block 0 (.loop (.seq (.region i2 #[⟨some 6,.next (.tmp 5) false,t3,p3,a3,none⟩,⟨some 7,.extract (.tmp 6) 0,t4,p4,a4,none⟩] false)
    (.seq (.cond (.tmp 7) .skip (.exit 0)) (.block 1 (.seq (.region i4 #[⟨some 8,.entry (.tmp 5),t5,p5,a5,none⟩,⟨some 9,.extract (.tmp 8) 0,t6,p6,a6,none⟩,⟨some 3,.alloc kt,t7,p7,a7,none⟩,⟨none,.store kt (.tmp 3) (.tmp 9),t8,p8,a8,none⟩] false)
     (.seq (.region i5 #[⟨some 10,.move (.tmp 0),t9,p9,a9,none⟩,⟨some 11,.load kt (.tmp 3),t10,p10,a10,none⟩,⟨some 12,.call ⟨.value (.tmp 10),#[.tmp 11],q⟩,t11,p11,a11,none⟩,⟨some 13,.unOp .not t13 (.tmp 12),t12,p12,a12,none⟩] false)
      (.cond (.tmp 13) .ret .skip)))))))))) :
  Spec P g [.lit (.func (.yield l) #[] #[]),.fptr [.lit (.map (some b))]] [.mp ek ev b es,.box Bs [.sv v],.own kt c v [],.obj l (.loop rec)]
   fun a H=>∃ v' ss,ss.Perm (es.map (·.1))∧H=[.mp ek ev b es,.box Bs [.sv v'],.own kt c v' ss,.obj l (.loop rec)]:=by
 have main:=spec_of (H:=[.mp ek ev b es,.box Bs [.sv v],.own kt c v [],.obj l (.loop rec)]) (avs:=[.lit (.func (.yield l) #[] #[]),.fptr [.lit (.map (some b))]]) (x:=some ()) (K:=fun (_:Unit) (a:AV) H=>∃ v' ss,ss.Perm (es.map (·.1))∧H=[.mp ek ev b es,.box Bs [.sv v'],.own kt c v' ss,.obj l (.loop rec)]) hf hb (by rw [hn];exact (show 2≤14 by decide)) ?_
 ·exact main () rfl
 rw [hn]
 refine P2<|j6 rfl<|sQ (dLd Y.gM rfl rfl) rfl<|zc (j:=0) Y.ht rfl rfl rfl fun r=>j0 ?_
 refine m8 ?_
 refine (sWk [] (fr':=[(0,.lit (.func (.yield l) #[] #[])),(5,.lit (.pointer (some ⟨r,0,none⟩)))]) ⟨rfl,rfl,trivial⟩ rfl ?_)
 refine wc (σ:={ s:List (κ×ν)×Option (κ×ν)×List κ×Value // (s.2.2.1++s.1.map (·.1)).Perm (es.map (·.1)) }) (fun s=>s.1.1.length)
  (fun s=>[(0,.lit (.func (.yield l) #[] #[])),(5,.lit (.pointer (some ⟨r,0,none⟩)))])
  (fun s=>[.it ek ev b r es s.1.1 s.1.2.1,.box Bs [.sv s.1.2.2.2],.own kt c s.1.2.2.2 s.1.2.2.1,.obj l (.loop rec)]) ?_ ⟨(es,none,[],v),List.Perm.refl _⟩
 rintro ⟨⟨left,cur,ss,v⟩,hp⟩ again
 simp only at hp again ⊢
 refine P2<|j6 rfl<|vd (j:=0) rfl rfl rfl (fun hl=>?_) (fun i p hi=>?_)
 ·refine sQ (dX rfl rfl) rfl<|j0<|P2<|y9 rfl rfl<|g7 rfl<|fd 0 rfl it_mp<|bc hf hr ?_
  subst hl
  exact ⟨v,ss,by simpa using hp,rfl⟩
 ·have hlen:ss.length+left.length=es.length:=by have:=hp.length_eq;simpa using this
  have hil:i<left.length:=(List.getElem?_eq_some_iff.1 hi).1
  have hb1:(ss.length+1)*bytes≤140737488355328:=Nat.le_trans (Nat.mul_le_mul_right _ (by omega)) hbd
  refine sQ (dX rfl rfl) rfl<|j0<|P2<|V5 rfl rfl<|f3<|m8<|P2<|j6 rfl<|sQ (jd (j:=0) rfl rfl) rfl<|sQ (dX rfl rfl) rfl<|f7 Y.al Y.azp rfl fun b3=>?_
  refine k8 (j:=0) (bs:=c.e p.1) Y.zE rfl rfl rfl (Y.cell p.1) (c.one _) (c.len _) (by rw [Y.azl];omega) ?_
  have hsp:splice az 0 (c.e p.1)=c.e p.1:=by simp [splice,Y.azl,c.len]
  rw [hsp]
  refine j0<|P2<|j6 rfl<|sQ (dMv rfl) rfl<|sQ (av:=.agg (c.e p.1)) ?_ rfl<|vc (avs:=[.agg (c.e p.1)]) [2,2,2] rfl (rounds_of Y A p.1 hb1) rfl (.s rfl .nil) rfl fun av H' ⟨v',e1,e2⟩=>?_
  ·have:=j7 (P:=P) (n:=14) (ty:=t10) (t:=kt) (y:=.tmp 3) (b:=b3) (o:=0) (j:=0) (aS:=c.e p.1)
    (H:=[.box b3 (c.e p.1),.it ek ev b r es (left.eraseIdx i) (some p),.box Bs [.sv v],.own kt c v ss,.obj l (.loop rec)])
    (fr:=(10,.lit (.func (.yield l) #[] #[]))::(3,.lit (.pointer (some ⟨b3,0,none⟩)))::(9,.lit (ek p.1))::(8,.tup [.lit (ek p.1),.lit (ev p.2)])::(7,Ab true)::(6,.tup [Ab true,.lit (ek p.1),.lit (ev p.2)])::[(0,.lit (.func (.yield l) #[] #[])),(5,.lit (.pointer (some ⟨r,0,none⟩)))])
    Y.gE Y.zE rfl rfl (by rw [c.len];omega)
   rw [List.drop_zero,List.take_of_length_le (by rw [c.len];exact Nat.le_refl _)] at this
   exact this
  ·subst e1 e2
   refine sQ (V8 rfl) rfl<|j0<|y9 rfl rfl<|f3<|W4<|sPk [4,0,0,0] rfl<|sWk [] (fr':=[(0,.lit (.func (.yield l) #[] #[])),(5,.lit (.pointer (some ⟨r,0,none⟩)))]) ⟨rfl,rfl,trivial⟩ rfl<|again ⟨(left.eraseIdx i,some p,ss++[p.1],v'),?_⟩ ?_
   ·refine List.Perm.trans ?_ hp
    simp only [List.append_assoc,List.singleton_append]
    exact List.Perm.append_left ss ((perm_erase hi).map (fun y:κ×ν=>y.1)).symm
   ·simp only [List.length_eraseIdx,hil,if_true];omega
end
end S
namespace S
open Go.RowKit
set_option linter.unusedVariables false
set_option linter.unusedSimpArgs false
set_option linter.unusedSectionVars false
set_option maxRecDepth 100000
def AV.keys (g b:Nat):AV :=
 ⟨fun Z w u=>∃ p,u = .func (.func g) #[] #[p]∧(AV.fptr [.lit (.map (some b))]).p Z w p,fun hz hk ⟨p,e,h⟩=>⟨p,e,AV.st _ hz hk h⟩⟩
theorem Inv.more {w0 w:World} {F0 Z0 F Z:Nat→Prop} {H:List Res} (hi:Inv w0 w F0 Z0 F Z H) {r:Res} (hr:r.h Z w (fun _=>False)):Inv w0 w F0 Z0 F Z (r::H) :=
 ⟨hi.base,hi.z0,hi.zin,hi.fin,⟨fun _=>False,F,hr,hi.res,fun _ h=>h.elim,fun _ h=>h⟩⟩
theorem ne_pure {P:Program} {op:Op} {y:Operand} (h:op = .move y∨op = .assign y) (ρ:Operand→Value) (o:Oper) (w:World) (g:FuncId) (args:Array Value) (w':World) (ho:o.op=op):(execOp ρ o).run P w≠.ok (.enter g args) w':=by
 rcases h with rfl | rfl <;> simp [execOp,ho]
section
variable {P:Program} {κ ν:Type} {c:Co κ} {ek:κ→Value} {ev:ν→Value} {tM kt et tS:TypeId} {zs:List Value} {az:List AV} {z:Value} {bytes:Nat}
set_option maxHeartbeats 2000000 in
theorem appendSeq (Y:KeysTy P c ek ev tM kt et tS zs az z bytes) {b:Nat} {es:List (κ×ν)} {g:FuncId} (hg:Ent P g)
  (hit:∀ {Bs l:Nat} {rec:Loop} {v:Value},ApRec tS kt Bs rec→Spec P g [.lit (.func (.yield l) #[] #[]),.fptr [.lit (.map (some b))]] [.mp ek ev b es,.box Bs [.sv v],.own kt c v [],.obj l (.loop rec)]
   fun a H=>∃ v' ss,ss.Perm (es.map (·.1))∧H=[.mp ek ev b es,.box Bs [.sv v'],.own kt c v' ss,.obj l (.loop rec)])
  {f:FuncId} {fn:Func} {i0 i1 i2 i3 i4:Nat} {t1 t2 t3 t4 t5 t6 t7 t8 t9 t10 t11 t12:TypeId} {p1 p2 p3 p4 p5 p6 p7 p8 p9 p10 p11 p12:String} {a1 a2 a3 a4 a5 a6 a7 a8 a9 a10 a11 a12:Array Edge}
  (hf:P.funcs[f]?=some fn) (hn:fn.ntmps=13) (hr:fn.results=#[.tmp 4])
  (hb:fn.body=some (.seq (.region i0 #[⟨some 2,.box tS (.tmp 0),t1,p1,a1,none⟩,⟨some 4,.assign (.const (.slice none 0 0)),t2,p2,a2,none⟩] false)
   (.seq (.seq (.region i1 #[⟨some 6,.move (.tmp 1),t3,p3,a3,none⟩] false)
    (.block 0 (.rangeFunc (.tmp 6) #[7] (.region i2 #[⟨some 5,.alloc kt,t4,p4,a4,none⟩,⟨none,.store kt (.tmp 5) (.tmp 7),t5,p5,a5,none⟩] false)
     (.block 1 (.region i3 #[⟨some 8,.load tS (.tmp 2),t6,p6,a6,none⟩,⟨some 9,.load kt (.tmp 5),t7,p7,a7,none⟩,⟨some 10,.buildSlice tS 1 #[(0,.tmp 9)],t8,p8,a8,none⟩,⟨some 11,.call ⟨.builtin .append,#[.tmp 8,.tmp 10],#[tS,tS]⟩,t9,p9,a9,none⟩,⟨none,.store tS (.tmp 2) (.tmp 11),t10,p10,a10,none⟩] false)))))
    (.seq (.region i4 #[⟨some 12,.load tS (.tmp 2),t11,p11,a11,none⟩,⟨some 4,.assign (.tmp 12),t12,p12,a12,none⟩] false) .ret)))) :
  Spec P f [.lit (.slice none 0 0),.keys g b] [.mp ek ev b es] fun a H=>∃ v ss,a = .sv v∧ss.Perm (es.map (·.1))∧H=[.own kt c v ss,.mp ek ev b es]:=by
 intro w F Z vs hvs hi
 cases hvs with
 | @cons _ v0 _ vs' hv0 hvs' =>
 cases hvs' with
 | @cons _ u _ vs'' hu hvs'' =>
 cases hvs''
 have hv0':v0 = .slice none 0 0:=hv0
 subst hv0'
 refine callsIn_wide.1 (callsIn_of_wp_marks (n:=0) (F:=Fence.wide) hf hb trivial ?_)
 have hall:AllP Z w [.sv (.slice none 0 0),.keys g b] [.slice none 0 0,u]:=.cons ⟨rfl,_,_,_,rfl⟩ (.cons hu .nil)
 have hf0:FrOk (frOf 0 [.sv (.slice none 0 0),.keys g b]) Z w (([.slice none 0 0,u]:List Value).toArray++Array.replicate (fn.ntmps-([.slice none 0 0,u]:List Value).toArray.size) undef):=frOf_ok hall 0 _ fun j v hj=>by
  match j,hj with
  | 0,hj=>simp at hj;subst hj;rw [hn];rfl
  | 1,hj=>simp at hj;subst hj;rw [hn];rfl
  | j+2,hj=>simp at hj
 rw [hn] at hf0 ⊢
 refine wpIn_seq (wpIn_region ?_)
 refine (show WL P Fence.wide 0 [] 13 _ _ w F Z [0,1] _ _ from
  wV (fun _=>trivial) (d:=2) (I:=Nat) (av:=fun B=>.lit (.pointer (some ⟨B,0,none⟩))) (H':=fun B=>[.box B [.sv (.slice none 0 0)],.mp ek ev b es]) (fun o ho hty w0 F0 Z0 w F Z ρ hi hf=>⟨.pointer (some ⟨w.heap.size,0,none⟩),w.alloc (.cells (ρ (.tmp 0)).cells.toList.toArray tS),w.heap.size,_,Z,by simp only [execOp,ho,box_run,Sem.run_bind,Result.andThen_ok,Sem.run_pure],hi.push _ (.box w.heap.size [.sv (.slice none 0 0)]) ⟨rfl,_,tS,alloc_cells w _ tS,cOne oSv _ _ _ (AV.st _ (fun _ x=>x) ((Step.alloc w _ _).keep' hi) (hf (by simp [Op.operands]) rfl))⟩,fun _ x=>x,(Step.alloc w _ _).keep' hi,rfl⟩) rfl (fun c h=>by cases h) (by omega) fun B =>
  wQ (fun _=>trivial) (d:=4) (dAs rfl) (ne_pure (.inr rfl)) rfl (fun c h=>by cases h) (by omega) fun w1 F1 Z1 tm1 hn1 hi1 hf1=>?_) w F Z _ (by simp) hi hf0
 refine wpIn_seq (wpIn_seq (wpIn_region ?_))
 refine (show WL P Fence.wide 0 [] 13 _ _ w F Z [0] _ _ from wQ (fun _=>trivial) (d:=6) (dMv rfl) (ne_pure (.inl rfl)) rfl (fun c h=>by cases h) (by omega) fun w2 F2 Z2 tm2 hn2 hi2 hf2=>?_) w1 F1 Z1 tm1 hn1 hi1 hf1
 refine wpIn_block (wpIn_rangeFunc ?_)
 intro fnn _
 have e6:(AV.keys g b).p Z2 w2 (tm2.getD 6 undef):=hf2 6 _ rfl
 obtain ⟨p,hp,hfp⟩:=e6
 have e2:tm2.getD 2 undef = .pointer (some ⟨B,0,none⟩):=hf2 2 _ rfl
 have hi3:=(hi2.push (.deferred (some [])) (.obj w2.heap.size (.deferred (some []))) ⟨rfl,heap_alloc_new w2 _⟩)
 generalize hrec:({ state:=.ready,pending:=none,fn:=fnn,tmps:=tm2,params:=#[7],assign:=.region i2 #[⟨some 5,.alloc kt,t4,p4,a4,none⟩,⟨none,.store kt (.tmp 5) (.tmp 7),t5,p5,a5,none⟩] false,body:=.block 1 (.region i3 #[⟨some 8,.load tS (.tmp 2),t6,p6,a6,none⟩,⟨some 9,.load kt (.tmp 5),t7,p7,a7,none⟩,⟨some 10,.buildSlice tS 1 #[(0,.tmp 9)],t8,p8,a8,none⟩,⟨some 11,.call ⟨.builtin .append,#[.tmp 8,.tmp 10],#[tS,tS]⟩,t9,p9,a9,none⟩,⟨none,.store tS (.tmp 2) (.tmp 11),t10,p10,a10,none⟩] false),defers:=w2.heap.size }:Loop)=rec
 have hA:ApRec tS kt B rec:=by
  subst hrec
  exact ⟨hn2,e2,rfl,rfl,rfl,⟨_,_,_,_,_,_,_,rfl⟩,⟨_,_,_,_,_,_,_,_,_,_,_,_,_,_,_,_,_,rfl⟩⟩
 have hi4:=(hi3.push (.loop rec) (.obj (w2.alloc (.deferred (some []))).heap.size (.loop rec)) ⟨rfl,heap_alloc_new _ _⟩).more (r:=.own kt c (.slice none 0 0) []) (.inr ⟨rfl,none,rfl⟩)
 have hk4:Keep Z2 w2 ((w2.alloc (.deferred (some []))).alloc (.loop rec)):=fun x hx=>by
  have hlt:=(hi2.zin x hx).1
  rw [Below.heap_alloc _ _ x (by simp;omega),Below.heap_alloc _ _ x hlt]
 obtain ⟨F5,hin,hback⟩:=hi4.lend (js:=[4,3,0,0]) (Hin:=[.mp ek ev b es,.box B [.sv (.slice none 0 0)],.own kt c (.slice none 0 0) [],.obj (w2.alloc (.deferred (some []))).heap.size (.loop rec)]) rfl
 have hl1:(w2.alloc (.deferred (some []))).heap.size=w2.heap.size+1:=by simp
 rw [hl1] at hin hback
 refine ⟨w2.heap.size+1,[{ target:=.collected w2.heap.size,args:=#[] }],(w2.alloc (.deferred (some []))).alloc (.loop rec),{ target:=.fn (.func g) #[p],args:=#[.func (.yield (w2.heap.size+1)) #[] #[]] },(w2.alloc (.deferred (some []))).alloc (.loop rec),g,#[.func (.yield (w2.heap.size+1)) #[] #[]]++#[p],(w2.alloc (.deferred (some []))).alloc (.loop rec),?_,?_,fun _ _=>trivial,?_,fun h=>by simp [Fence.wide] at h,?_⟩
 ·rw [← hrec];exact run_enterLoop_outer _ _ _ _ _
 ·have e6':(⟨tm2,[]⟩:Act).eval (.tmp 6) = .func (.func g) #[] #[p]:=hp
  have e7:(⟨tm2,[]⟩:Act).eval (.const (.func (.yield (w2.heap.size+1)) #[] #[])) = .func (.yield (w2.heap.size+1)) #[] #[]:=rfl
  simp only [resolve,rangeCall,e6',Deferred.ofValue,List.map_toArray,List.map_cons,List.map_nil,e7,Sem.run_pure]
  rfl
 ·exact hg _ _
 ·refine callsIn_wide.2 ((hit hA _ F5 Z2 [.func (.yield (w2.heap.size+1)) #[] #[],p] (.cons rfl (.cons (AV.st _ (fun _ x=>x) hk4 hfp) .nil)) hin).mono ?_)
  rintro e w5 ⟨vr,rfl,F6,Z6,av,H6,⟨v',ss,hperm,rfl⟩,hinv,_⟩
  obtain ⟨F7,hi7,hk7⟩:=hback w5 F6 Z6 _ hinv
  have hi7':Inv w w5 F Z F7 Z6 [.mp ek ev b es,.box B [.sv v'],.own kt c v' ss,.obj (w2.heap.size+1) (.loop rec),.obj w2.heap.size (.deferred (some []))]:=hi7
  obtain ⟨_,⟨_,hL⟩,_⟩:=hi7'.res.at (j:=3) rfl
  have hst:rec.state≠.busy:=by rw [hA.st];decide
  obtain ⟨F8,hi8,hk8⟩:=hi7'.put (j:=3) (o':=.loop { rec with state:=.exhausted }) rfl
  have hend:=run_endLoop (P:=P) hL hst
  generalize ({ rec with state:=.exhausted }:Loop)=rx at hi8 hk8 hend
  rw [hA.pe] at hend
  refine ⟨none,_,hend,?_⟩
  have hf8:FrOk _ Z6 (w5.putObj (w2.heap.size+1) (.loop rx)) tm2:=(((hf2.st (fun _ x=>x) hk4).st hinv.z0 hk7).st (fun _ x=>x) hk8)
  refine wpIn_seq (wpIn_region ?_)
  refine (show WL P Fence.wide 0 [{ target:=.collected w2.heap.size,args:=#[] }] 13 _ _ w F Z [0,1] _ _ from
   wQ (fun _=>trivial) (d:=12) (k7 (j:=1) (a:=.sv v') Y.gS rfl rfl rfl) ne_load rfl (fun c h=>by cases h) (by omega) <|
   wQ (fun _=>trivial) (d:=4) (dAs rfl) (ne_pure (.inr rfl)) rfl (fun c h=>by cases h) (by omega) fun w9 F9 Z9 tm9 hn9 hi9 hf9=>?_) _ F8 Z6 tm2 hn2 hi8 hf8
  refine wpIn_ret ?_
  obtain ⟨_,⟨_,hK⟩,_⟩:=hi9.res.at (j:=4) rfl
  obtain ⟨F10,hi10,hk10⟩:=hi9.put (j:=4) (o':=.deferred none) rfl
  refine ⟨by simp,.inl ⟨_,_,rfl,run_takeDeferred hK,?_⟩⟩
  obtain ⟨v1,e1,q1⟩:=rT (P:=P) (H:=[]) (fr:=(4,AV.sv v')::(12,AV.sv v')::_) (u:=4) rfl Z9 (fun _=>False) _ tm9 trivial (hf9.st (fun _ x=>x) hk10)
  exact ⟨v1,results1 hr e1,v1,rfl,F10,Z9,.sv v',_,⟨v',ss,rfl,hperm,rfl⟩,hi10.less (·.pickR [2,0]),q1⟩
end
end S
namespace S
open Go.RowKit
set_option linter.unusedVariables false
set_option linter.unusedSimpArgs false
set_option linter.unusedSectionVars false
set_option maxRecDepth 100000
section
variable {P:Program} {f:FuncId} {n:Nat} {H:List Res} {fr:Fr} {ty:TypeId} {κ ν:Type} {c:Co κ} {ek:κ→Value} {ev:ν→Value} {kt tS:TypeId}
theorem dMkF {g b:Nat} {y:Operand} (hy:arg fr y=some (.fptr [.lit (.map (some b))])):D P n H (.makeFunc (.func g) #[] #[y]) ty fr (.keys g b) :=
 .of fun o ho hty w Z F ρ _ hf=>by
  have hp:=hf (by simp [Op.operands]) hy
  exact ⟨.func (.func g) #[] #[ρ y],by simp [execOp,ho,Instr.makeFunc,Sem.run_bind],ρ y,rfl,hp⟩
theorem keysFn {tM:TypeId} {b g:Nat} {fn:Func} {i0 i1:Nat} {t1 t2 t3 t4:TypeId} {p1 p2 p3 p4:String} {a1 a2 a3 a4:Array Edge}
  (hf:P.funcs[f]?=some fn) (hn:fn.ntmps=4) (hr:fn.results=#[.tmp 2])
  (hb:fn.body=some (.seq (.region i0 #[⟨some 1,.box tM (.tmp 0),t1,p1,a1,none⟩,⟨some 2,.assign (.const .nilFunc),t2,p2,a2,none⟩] false)
   (.seq (.region i1 #[⟨some 3,.makeFunc (.func g) #[] #[.tmp 1],t3,p3,a3,none⟩,⟨some 2,.assign (.tmp 3),t4,p4,a4,none⟩] false) .ret))) :
  Pure P f [.lit (.map (some b))] (some ()) fun _=>.keys g b :=
 spec_of' hf hb hn (by exact (show 1≤4 by decide))<|P2<|j6 rfl<|sQ (W8 (az:=[.lit (.map (some b))]) rfl (cOne (oLit rfl))) rfl<|sQ (dAs rfl) rfl<|j0<|P2<|j6 rfl<|sQ (dMkF rfl) rfl<|sQ (dAs rfl) rfl<|j0<|Q1 [] hf hr (rT rfl) ⟨rfl,rfl⟩
def KeysPost (kt:TypeId) (c:Co κ) (ek:κ→Value) (ev:ν→Value) (b:Nat) (es:List (κ×ν)) (a:AV) (H:List Res):Prop:=∃ v ss,a = .sv v∧ss.Perm (es.map (·.1))∧H=[.own kt c v ss,.mp ek ev b es]
theorem collectFn {b g f44:Nat} {es:List (κ×ν)} (hg:Ent P f44) (hap:Spec P f44 [.lit (.slice none 0 0),.keys g b] [.mp ek ev b es] (KeysPost kt c ek ev b es))
  {fn:Func} {i0 i1:Nat} {t1 t2 t3 t4:TypeId} {q:Array TypeId} {p1 p2 p3 p4:String} {a1 a2 a3 a4:Array Edge}
  (hf:P.funcs[f]?=some fn) (hn:fn.ntmps=5) (hr:fn.results=#[.tmp 2])
  (hb:fn.body=some (.seq (.region i0 #[⟨some 2,.assign (.const (.slice none 0 0)),t1,p1,a1,none⟩] false)
   (.seq (.region i1 #[⟨some 3,.move (.tmp 0),t2,p2,a2,none⟩,⟨some 4,.call ⟨.value (.func f44),#[.const (.slice none 0 0),.tmp 3],q⟩,t3,p3,a3,none⟩,⟨some 2,.assign (.tmp 4),t4,p4,a4,none⟩] false) .ret))) :
  Spec P f [.keys g b] [.mp ek ev b es] (KeysPost kt c ek ev b es):=by
 have main:=spec_of (H:=[.mp ek ev b es]) (avs:=[.keys g b]) (x:=some ()) (K:=fun (_:Unit) a H=>KeysPost kt c ek ev b es a H) hf hb (by rw [hn];exact (show 1≤5 by decide)) ?_
 ·exact main () rfl
 rw [hn]
 refine P2<|j6 rfl<|sQ (dAs rfl) rfl<|j0<|P2<|j6 rfl<|sQ (dMv rfl) rfl<|pb [0] hg rfl hap rfl (.s rfl (.s rfl .nil)) rfl fun av H' h=>?_
 obtain ⟨v,ss,rfl,hp,rfl⟩:=h
 exact sQ (dAs rfl) rfl<|j0<|Q1 [] hf hr (rT rfl) ⟨v,ss,rfl,hp,rfl⟩
theorem sortedFn {b g f32 f33 gc:Nat} {es:List (κ×ν)} {Sd:List κ→Prop} (hg:Ent P f32) (hg':Ent P f33) (hco:Spec P f32 [.keys g b] [.mp ek ev b es] (KeysPost kt c ek ev b es))
  (hso:∀ v ss,ss.Perm (es.map (·.1))→Spec P f33 [.sv v,.lit (.func (.func gc) #[] #[])] [.own kt c v ss] fun a H=>∃ ys,ys.Perm ss∧Sd ys∧H=[.own kt c v ys])
  {fn:Func} {i0 i1 i2 i3:Nat} {t1 t2 t3 t4 t5 t6 t7 t8 t9:TypeId} {q q':Array TypeId} {p1 p2 p3 p4 p5 p6 p7 p8 p9:String} {a1 a2 a3 a4 a5 a6 a7 a8 a9:Array Edge}
  (hf:P.funcs[f]?=some fn) (hn:fn.ntmps=12) (hr:fn.results=#[.tmp 4])
  (hb:fn.body=some (.seq (.region i0 #[⟨some 4,.assign (.const (.slice none 0 0)),t1,p1,a1,none⟩] false)
   (.seq (.region i1 #[⟨some 6,.move (.tmp 0),t2,p2,a2,none⟩,⟨some 7,.call ⟨.value (.func f32),#[.tmp 6],q⟩,t3,p3,a3,none⟩,⟨some 5,.assign (.tmp 7),t4,p4,a4,none⟩] false)
    (.seq (.region i2 #[⟨some 8,.move (.tmp 5),t5,p5,a5,none⟩,⟨some 9,.move (.tmp 1),t6,p6,a6,none⟩,⟨some 10,.call ⟨.value (.func f33),#[.tmp 8,.tmp 9],q'⟩,t7,p7,a7,none⟩] false)
     (.seq (.region i3 #[⟨some 11,.move (.tmp 5),t8,p8,a8,none⟩,⟨some 4,.assign (.tmp 11),t9,p9,a9,none⟩] false) .ret))))) :
  Spec P f [.keys g b,.lit (.func (.func gc) #[] #[])] [.mp ek ev b es] fun a H=>∃ v ys,a = .sv v∧ys.Perm (es.map (·.1))∧Sd ys∧H=[.own kt c v ys,.mp ek ev b es]:=by
 have main:=spec_of (H:=[.mp ek ev b es]) (avs:=[.keys g b,.lit (.func (.func gc) #[] #[])]) (x:=some ()) (K:=fun (_:Unit) a H=>∃ v ys,a = .sv v∧ys.Perm (es.map (·.1))∧Sd ys∧H=[.own kt c v ys,.mp ek ev b es]) hf hb (by rw [hn];exact (show 2≤12 by decide)) ?_
 ·exact main () rfl
 rw [hn]
 refine P2<|j6 rfl<|sQ (dAs rfl) rfl<|j0<|P2<|j6 rfl<|sQ (dMv rfl) rfl<|pb [0] hg rfl hco rfl (.s rfl .nil) rfl fun av H' h=>?_
 obtain ⟨v,ss,rfl,hp,rfl⟩:=h
 refine sQ (dAs rfl) rfl<|j0<|P2<|j6 rfl<|sQ (dMv rfl) rfl<|sQ (dMv rfl) rfl<|pb [0] hg' rfl (hso v ss hp) rfl (.s rfl (.s rfl .nil)) rfl fun av H' h=>?_
 obtain ⟨ys,hp2,hs,rfl⟩:=h
 exact j0<|P2<|j6 rfl<|sQ (dMv rfl) rfl<|sQ (dAs rfl) rfl<|j0<|Q1 [] hf hr (rT rfl) ⟨v,ys,rfl,hp2.trans hp,hs,rfl⟩
end
end S
end Go.Proofs.Ytgmnohjaciemmaa

