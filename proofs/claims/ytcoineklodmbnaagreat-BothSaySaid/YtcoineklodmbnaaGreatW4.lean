import Derived.Laws.IdiomRangeMap
import Derived.RangeFuncIn
import Derived.RangeFuncRecord
import Derived.RangeFuncLeaves
import Derived.Shelf.SlSortCmp.InsertionK
import Derived.Shelf.SlSortCmp.NoneTotal
import Derived.Test.YtcoineklodmbnaaGreatW3
set_option linter.unusedVariables false
set_option linter.unusedSimpArgs false
set_option linter.unusedSectionVars false
namespace Go.Proofs.YtcoineklodmbnaaGreat
namespace S
open Go.RowKit Go.MapKept
theorem hold (w:World)(o:Obj)(r:Nat)(h:r<w.heap.size):(w.alloc o).heap[r]?=w.heap[r]?:=by
 show (w.heap.push o)[r]?=_;rw [Array.getElem?_push,if_neg (Nat.ne_of_lt h)]
theorem fl {P:Program}{f:FuncId}{n:Nat}{k:List Item}{ρ R:Type}{x:Option ρ}{X:ρ→Option R}{K:R→AV→List Res→Prop}{c:Code}{σ:Type}(μ:σ→Nat)(fr:σ→Fr)(H:σ→List Res)
  (h:∀ s,(∀ s',μ s'<μ s→Sim P f n (.inLoop c::k) (fr s') (H s') x X K)→Sim P f n (.code c :: .inLoop c::k) (fr s) (H s) x X K) (s:σ):Sim P f n (.code (.loop c)::k) (fr s) (H s) x X K:=by
 have key:∀ m s,μ s<m→Sim P f n (.inLoop c::k) (fr s) (H s) x X K:=by
  intro m
  induction m with
  | zero=>intro s hs;exact absurd hs (Nat.not_lt_zero _)
  | succ m ih=>intro s hs r hr w0 F0 Z0 w F Z tmps hn hi hf;exact .inLoop (h s (fun s' hs'=>ih s' (by omega)) r hr w0 F0 Z0 w F Z tmps hn hi hf)
 intro r hr w0 F0 Z0 w F Z tmps hn hi hf;exact .loop (h s (fun s' hs'=>key (μ s'+1) s' (by omega)) r hr w0 F0 Z0 w F Z tmps hn hi hf)
theorem gm {P:Program}{f:FuncId}{n:Nat}{k:List Item}{fr:Fr}{H:List Res}{ρ R:Type}{x:Option ρ}{X:ρ→Option R}{K:R→AV→List Res→Prop}(j:Nat){r r':Res}(hj:H[j]?=some r)(hw:∀ Z w F,r.h Z w F→r'.h Z w F)
  (h:Sim P f n k fr (H.set j r') x X K):Sim P f n k fr H x X K:=by
 intro a ha w0 F0 Z0 w F Z tmps hn hi hf;obtain ⟨F',hi',hk⟩:=hi.turn (w':=w) (r':=r') hj fun F1 h1 _=>⟨F1,Step.refl _ _,hw _ _ _ h1,fun _ x=>.inl x⟩
 exact h a ha w0 F0 Z0 w F' Z tmps hn hi' hf
section
variable {κ ν:Type}(ek:κ→Value)(ev:ν→Value)
def ItAt (w:World)(b r:Nat)(es left:List (κ×ν))(cur:Option (κ×ν)):Prop :=
 ∃ ms clock seen,w.heap[b]?=some (.map ms clock)∧Stamped ms clock∧ms.toList.map (fun e=>(e.key,e.val))=es.map (fun p=>(ek p.1,ev p.2))∧w.heap[r]?=some (.mapIter (some b) clock seen clock) ∧
  (leftOf ms seen).toList.map (fun e=>(e.key,e.val))=left.map (fun p=>(ek p.1,ev p.2))∧∀ p,cur=some p→∃ e ∈ ms.toList,seen.back?=some e.born∧e.key=ek p.1∧e.val=ev p.2
def Res.it (b r:Nat)(es left:List (κ×ν))(cur:Option (κ×ν)):Res :=
 ⟨fun Z w F=>F b∧F r∧b≠r∧ItAt ek ev w b r es left cur,fun hz hk ⟨hb,hr,hne,ms,clock,seen,h1,h2,h3,h4,h5⟩=>⟨hb,hr,hne,ms,clock,seen,(hk b (.inr hb)).trans h1,h2,h3,(hk r (.inr hr)).trans h4,h5⟩⟩
end
theorem it_mp {κ ν:Type}{ek:κ→Value}{ev:ν→Value}{b r:Nat}{es left:List (κ×ν)}{cur:Option (κ×ν)}(Z:Nat→Prop)(w:World)(F:Nat→Prop)(h:(Res.it ek ev b r es left cur).h Z w F):(Res.mp ek ev b es).h Z w F:=by
 obtain ⟨hb,_,_,ms,clock,_,h1,h2,h3,_⟩:=h;exact ⟨hb,ms,clock,h1,h2,h3⟩
theorem map_erase {α β:Type}(g:α→β):∀ (l:List α) (i:Nat),(l.eraseIdx i).map g=(l.map g).eraseIdx i
 | [],_=>by simp
 | _::_,0=>rfl
 | a::l,i+1=>by simp [map_erase g l i]
theorem leftOf_none (ms:Array MapEntry):leftOf ms #[]=ms:=by unfold leftOf;exact Array.filter_eq_self.2 (by simp)
theorem run_next_at {P:Program}(w:World)(ty:TypeId)(r bm since c0:Nat)(seen:Array Nat)(es:Array MapEntry)(clock:Nat)(hr:w.heap[r]?=some (.mapIter (some bm) since seen c0))(hb:w.heap[bm]?=some (.map es clock))(hold:∀ x ∈ es.toList,x.born<since)(hsc:since≤c0) :
  ((leftOf es seen).size=0∧(Instr.next (.pointer (some ⟨r,0,none⟩)) false ty).run P w = .ok (.tuple #[.bool false]) w) ∨
  ∃ (j:Nat) (e:MapEntry) (q:Nat),(leftOf es seen).toList[j]?=some e∧(Instr.next (.pointer (some ⟨r,0,none⟩)) false ty).run P w = .ok (.tuple #[.bool true,e.key,e.val]) { w with drawn:=q,heap:=w.heap.setIfInBounds r (.mapIter (some bm) since (seen.push e.born) clock) }:=by
 simp only [Instr.next,getObj,Sem.run_bind,Sem.run,hr,hb,Result.andThen,next_test_false seen es since c0 hold hsc,Bool.false_eq_true,if_false];unfold leftOf;have hmem:∀ x ∈ (Array.filter (fun e=>!seen.contains e.born) es).toList,x.born<since:=fun x hx=>hold x (by simp at hx ⊢;exact hx.1)
 generalize Array.filter (fun e=>!seen.contains e.born) es=L at hmem ⊢;have e1:L.filter (fun x=>decide (x.born<since))=L:=Array.filter_eq_self.2 (fun x hx=>by simpa using hmem x (by simpa using hx));have e2:L.filter (fun x=>decide (x.born≥since))=#[]:=by
  rw [Array.filter_eq_empty_iff];intro x hx;have:=hmem x (by simpa using hx);simp;omega
 simp only [e1,e2,Array.append_empty]
 by_cases h0:L.size=0
 ·left;have:L=#[]:=Array.eq_empty_of_size_eq_zero h0;subst this;refine ⟨rfl,?_⟩;simp [choose,Sem.run,Question.forced]
 ·right;have hne:L.isEmpty=false:=by simp [Array.isEmpty,h0]
  simp only [hne,Bool.false_eq_true,if_false,Array.empty_append,Array.size_map];have hch:∃ (j q:Nat),j<L.size∧(choose (Question.mapNext L.size)).run P w = .ok j { w with drawn:=q }:=by
   by_cases hf:L.size≤1
   ·exact ⟨0,w.drawn,by omega,by simp [choose,Sem.run,Question.forced,hf]⟩
   ·exact ⟨_,w.drawn+1,Nat.mod_lt _ (by omega),by
     simp only [choose,Sem.run,Question.forced,decide_eq_true_eq,hf,if_false,Question.cut];rfl⟩
  obtain ⟨j,q,hj,hrun⟩:=hch;refine ⟨j,L[j],q,by simp [hj],?_⟩;have hset:∀ o':Obj,(setObj r o').run P { w with drawn:=q } = .ok () { w with drawn:=q,heap:=w.heap.setIfInBounds r o' }:=fun o'=>by
   simp only [setObj,Sem.run,hr]
  simp only [hrun,Array.getElem?_map,Array.getElem?_eq_getElem hj,Option.map_some,Sem.run_bind,hset,Result.andThen];rfl
theorem left_push {ms:Array MapEntry}{seen:Array Nat}{clock j:Nat}{e:MapEntry}(hs:Stamped ms clock)(hj:(leftOf ms seen).toList[j]?=some e):(leftOf ms (seen.push e.born)).toList=(leftOf ms seen).toList.eraseIdx j:=by
 have hn:((leftOf ms seen).toList.map (·.born)).Nodup:=by
  have:=((stamped_iff ms clock).1 hs).2.1;unfold leftOf;rw [Array.toList_filter];exact (List.filter_sublist.map _).nodup this
 have e1:(leftOf ms (seen.push e.born)).toList=(leftOf ms seen).toList.filter (fun x=>!(x.born == e.born)):=by
  unfold leftOf;simp only [Array.toList_filter,List.filter_filter]
  congr 1
  funext x
  by_cases hx:x.born=e.born <;> simp [hx,Bool.and_comm]
 rw [e1];generalize (leftOf ms seen).toList=l at hj hn
 clear e1
 induction l generalizing j with
 | nil=>simp at hj
 | cons a l ih =>
  obtain ⟨hna,hnl⟩:=List.nodup_cons.1 hn
  cases j with
  | zero =>
   simp at hj;subst hj;simp only [List.filter_cons,beq_self_eq_true,Bool.not_true,Bool.false_eq_true,if_false,List.eraseIdx_cons_zero];exact List.filter_eq_self.2 fun x hx=>by
    have:x.born≠a.born:=fun q=>hna (List.mem_map.2 ⟨x,hx,q⟩)
    simp [this]
  | succ j =>
   have hj':l[j]?=some e:=by simpa using hj
   have hae:a.born≠e.born:=fun q=>hna (List.mem_map.2 ⟨e,List.mem_of_getElem? hj',q.symm⟩)
   have:(!(a.born == e.born))=true:=by simp [hae]
   rw [List.filter_cons,if_pos this,List.eraseIdx_cons_succ,ih hj' hnl]
section
variable {P:Program}{f:FuncId}{n:Nat}{ops:Array Oper}{l:List Oper}{k:List Item}{fr:Fr}{H:List Res}{ρ R:Type}{x:Option ρ}{X:ρ→Option R}{K:R→AV→List Res→Prop}{ty t kt et:TypeId}{d:Nat}{pos:String}{aft:Array Edge}
variable {κ ν:Type}{ek:κ→Value}{ev:ν→Value}
theorem tl {m:Operand}{b j:Nat}{es:List (κ×ν)}(ht:P.underlying t=some (.map kt et))(hm:arg fr m=some (.lit (.map (some b))))(hj:H[j]?=some (.mp ek ev b es))(hdn:Nat.blt d n=true)
  (h:∀ r,SimL P f n ops l k ((d,.lit (.pointer (some ⟨r,0,none⟩)))::fr) (H.set j (.it ek ev b r es es none)) x X K):SimL P f n ops (⟨some d,.range t m,ty,pos,aft,none⟩::l) k fr H x X K:=by
 refine ph (I:=Nat) (av:=fun r=>.lit (.pointer (some ⟨r,0,none⟩))) (H':=fun r=>H.set j (.it ek ev b r es es none)) (fun o ho hty w0 F0 Z0 w F Z ρ hi hf=>?_) hdn h;have e1:ρ m=_:=hf (by simp [Op.operands]) hm;obtain ⟨F1,⟨hb,ms,clock,h1,h2,h3⟩,_⟩:=hi.res.at hj;have s:=Step.alloc w (.mapIter (some b) clock #[] clock) (fun _=>False);have hbl:b<w.heap.size:=(Array.getElem?_eq_some_iff.1 h1).1;obtain ⟨F',hi',hk⟩:=hi.turn (w':=w.alloc (.mapIter (some b) clock #[] clock)) (r':=.it ek ev b w.heap.size es es none) hj fun F1 ⟨hb,_⟩ _ =>
  ⟨fun c=>F1 c∨c=w.heap.size,Step.alloc w _ _,⟨.inl hb,.inr rfl,by omega,ms,clock,#[],(hold _ _ _ hbl).trans h1,h2,h3,heap_alloc_new w _,by rw [leftOf_none];exact h3,fun p hp=>by cases hp⟩,fun c hc=>hc.imp id fun e=>by subst e;exact ⟨Nat.le_refl _,by simp⟩⟩
 exact ⟨_,_,w.heap.size,F',Z,by simp only [execOp,ho,e1,run_range_map w t kt et b ms clock ht h1,Sem.run_bind,Result.andThen_ok,Sem.run_pure],hi',fun _ x=>x,hk,rfl⟩
theorem ym {m:Operand}{b r j:Nat}{es left:List (κ×ν)}{cur:Option (κ×ν)}(hm:arg fr m=some (.lit (.pointer (some ⟨r,0,none⟩))))(hj:H[j]?=some (.it ek ev b r es left cur))(hdn:Nat.blt d n=true)
  (h0:left=[]→SimL P f n ops l k ((d,.tup [Ab false])::fr) H x X K)
  (h1:∀ (i:Nat) (p:κ×ν),left[i]?=some p→SimL P f n ops l k ((d,.tup [Ab true,.lit (ek p.1),.lit (ev p.2)])::fr) (H.set j (.it ek ev b r es (left.eraseIdx i) (some p))) x X K) :
  SimL P f n ops (⟨some d,.next m false,ty,pos,aft,none⟩::l) k fr H x X K:=by
 refine ph (I:={ o:Option (Nat×(κ×ν)) // match o with|none=>left=[] | some (i,p)=>left[i]?=some p }) (av:=fun ι=>match ι.1 with|none=>.tup [Ab false] | some (_,p)=>.tup [Ab true,.lit (ek p.1),.lit (ev p.2)])
  (H':=fun ι=>match ι.1 with|none=>H|some (i,p)=>H.set j (.it ek ev b r es (left.eraseIdx i) (some p))) (fun o ho hty w0 F0 Z0 w F Z ρ hi hf=>?_) hdn (fun ι=>?_)
 ·have e1:ρ m=_:=hf (by simp [Op.operands]) hm;obtain ⟨F1,⟨hb,hr,hne,ms,clock,seen,g1,g2,g3,g4,g5,_⟩,_⟩:=hi.res.at hj;rcases run_next_at (P:=P) w o.type r b clock clock seen ms clock g4 g1 ((stamped_iff ms clock).1 g2).1 (Nat.le_refl _) with ⟨q0,hrun⟩|⟨i,e,q,hi1,hrun⟩
  ·have hl:left=[]:=by
    have:=congrArg List.length g5;simp only [List.length_map,Array.length_toList] at this;exact List.length_eq_zero_iff.1 (by omega)
   exact ⟨_,w,⟨none,hl⟩,F,Z,by simp only [execOp,ho,e1,hrun,Sem.run_bind,Result.andThen_ok,Sem.run_pure],hi,fun _ x=>x,fun _ _=>rfl,[_],rfl,.cons rfl .nil⟩
  ·obtain ⟨p,hp,k1,k2⟩:∃ p,left[i]?=some p∧e.key=ek p.1∧e.val=ev p.2:=by
    have:=congrArg (·[i]?) g5;simp only [List.getElem?_map,hi1,Option.map_some] at this
    cases hp:left[i]? with
    | none=>rw [hp] at this;cases this
    | some p=>rw [hp] at this;simp only [Option.map_some,Option.some.injEq,Prod.mk.injEq] at this;exact ⟨p,rfl,this.1,this.2⟩
   have hem:e ∈ ms.toList:=by
    have:=List.mem_of_getElem? hi1;unfold leftOf at this;rw [Array.toList_filter] at this;exact (List.mem_filter.1 this).1
   obtain ⟨F',hi',hk⟩:=hi.turn (w':={ w with drawn:=q,heap:=w.heap.setIfInBounds r (.mapIter (some b) clock (seen.push e.born) clock) }) (r':=.it ek ev b r es (left.eraseIdx i) (some p)) hj fun F1 ⟨hb,hr,hne,_⟩ _ =>
    ⟨F1,⟨rfl,rfl,rfl,run_drawn _ hrun,by simp,fun c _ hc=>by
     have:r≠c:=fun e=>hc (e ▸ hr)
     simp [this]⟩,⟨hb,hr,hne,ms,clock,seen.push e.born,by simpa [Ne.symm hne] using g1,g2,g3,(heap_set g4).1,by rw [left_push g2 hi1,map_erase,g5,map_erase],fun p' hp'=>by cases hp';exact ⟨e,hem,by simp,k1,k2⟩⟩,fun _ x=>.inl x⟩
   exact ⟨_,_,⟨some (i,p),hp⟩,F',Z,by simp only [execOp,ho,e1,hrun,Sem.run_bind,Result.andThen_ok,Sem.run_pure],hi',fun _ x=>x,hk,[_,_,_],rfl,.cons rfl (.cons k1 (.cons k2 .nil))⟩
 ·obtain ⟨o,ho⟩:=ι
  cases o with
  | none=>exact h0 ho
  | some q=>exact h1 q.1 q.2 ho
theorem qm {m:Operand}{b r j:Nat}{es left:List (κ×ν)}{p:κ×ν}(hm:arg fr m=some (.lit (.pointer (some ⟨r,0,none⟩))))(hj:H[j]?=some (.it ek ev b r es left (some p))):D P n H (.entry m) ty fr (.tup [.lit (ek p.1),.lit (ev p.2)]) :=
 .of fun q ho hty w Z F ρ hH hf=>by
  have e1:ρ m=_:=hf (by simp [Op.operands]) hm;obtain ⟨F1,⟨hb,hr,hne,ms,clock,seen,g1,g2,g3,g4,g5,g6⟩,_⟩:=hH.at hj;obtain ⟨e,he,hs,k1,k2⟩:=g6 p rfl;have hfind:ms.find? (·.born == e.born)=some e:=by rw [← Array.find?_toList];exact find_born e ms.toList ((stamped_iff ms clock).1 g2).2.1 he
  exact ⟨.tuple #[ek p.1,ev p.2],(by simp only [execOp,ho,e1,Instr.entry,getObj,Sem.run_bind,Sem.run,g4,g1,Result.andThen,hs,bne_self_eq_false,Bool.false_eq_true,if_false,hfind,k1,k2];rfl),[_,_],rfl,.cons rfl (.cons rfl .nil)⟩
end
end S
namespace S
open Go.RowKit
theorem Inv.lend {H Hin:List Res}{js:List Nat}{w0 w:World}{F0 Z0 F Z:Nat→Prop}(hi:Inv w0 w F0 Z0 F Z H)(hpk:pickR H js=Hin) :
  ∃ F1:Nat→Prop,Inv w w F1 Z F1 Z Hin∧∀ (w'':World) (F' Z':Nat→Prop) (H':List Res),Inv w w'' F1 Z F' Z' H'→∃ F'',Inv w0 w'' F0 Z0 F'' Z' (H'++restR H js)∧Keep Z w w'':=by
 obtain ⟨F1,F2,h1,h2,d1,d2⟩:=hi.res.part js;refine ⟨F1,⟨Base.refl _ _,fun _ x=>x,fun b hb=>⟨(hi.zin b hb).1,.inl hb⟩,fun b hb=>⟨(hi.fin b (d1 b hb).1).1,.inl hb,(hi.fin b (d1 b hb).1).2.2⟩,hpk ▸ h1⟩,fun w'' F' Z' H' hinv=>?_⟩;have s:Step w w'' F1:=⟨hinv.base.os,hinv.base.tape,hinv.base.output,hinv.base.drawn,hinv.base.size,fun b hb hn=>hinv.base.keep b hb hn⟩
 have hk:Keep Z w w'':=hi.keepZ s fun b hb=>(d1 b hb).1
 have hzF:∀ b,Z' b→F2 b→False:=fun b hz hF=>by
  rcases (hinv.zin b hz).2 with y|y|y
  ·exact (hi.fin b (d2 b hF)).2.2 y
  ·exact (d1 b y).2 hF
  ·have:=(hi.fin b (d2 b hF)).1;omega
 refine ⟨fun b=>F' b∨F2 b,?_,hk⟩;refine hi.step s (fun b hb=>(d1 b hb).1) hinv.z0 (fun b hb=>?_) (fun b hb=>?_) (hinv.res.append (h2.st hinv.z0 fun b hb=>s.keep b (hb.elim (fun x=>(hi.zin b x).1) (fun x=>(hi.fin b (d2 b x)).1)) fun hF=>?_) fun b hb hF=>?_)
 ·have:=hinv.zin b hb;rcases this.2 with y|y|y
  ·exact .inl y
  ·exact .inr (.inl (d1 b y).1)
  ·exact .inr (.inr ⟨y,this.1⟩)
 ·rcases hb with hb|hb
  ·have:=hinv.fin b hb;exact ⟨this.2.1.elim (fun z=>.inl (d1 b z).1) fun z=>.inr ⟨z,this.1⟩,this.2.2⟩
  ·exact ⟨.inl (d2 b hb),fun hz=>hzF b hz hb⟩
 ·rcases hb with x|x
  ·exact (hi.fin b (d1 b hF).1).2.2 x
  ·exact (d1 b hF).2 x
 ·rcases (hinv.fin b hb).2.1 with y|y
  ·exact (d1 b y).2 hF
  ·have:=(hi.fin b (d2 b hF)).1;omega
def Rounds (P:Program)(l:Nat)(avs:List AV)(H:List Res)(K:AV→List Res→Prop):Prop :=
 ∀ (w:World) (F Z:Nat→Prop) (vs:List Value),AllP Z w avs vs→Inv w w F Z F Z H→∃ fn tmps assign body,(Instr.yield l vs.toArray).run P w = .ok (.round l fn tmps assign body) w ∧
  RoundIn Fence.wide 0 P l fn tmps assign body w fun e w'=>∃ v,e = .returned v∧Done w F Z K v w'
theorem Run.round {P:Program}{f:FuncId}{k:List Item}{tmps:Array Value}{w:World}{R:Value→World→Prop}{ops:Array Oper}{i:Nat}{is:List Nat}{o:Oper}{l:Nat}{fn:FuncId}{tm:Array Value}{aS bd:Code}{w':World}{R1:Ending→World→Prop}(ho:ops[i]?=some o)(hw:Region.wanted o (yielded ops tmps)=true)
  (hr:(execOp (⟨tmps,[]⟩:Act).eval o).run P w = .ok (.round l fn tm aS bd) w') (hc:RoundIn Fence.wide 0 P l fn tm aS bd w' R1)
  (h:∀ e w'',R1 e w''→∃ v,e = .returned v∧Run P f (.inRegion ops is::k) (putT tmps o.dst v) w'' R):Run P f (.inRegion ops (i::is)::k) tmps w R:=by
 intro b cs hb hk;have hg:=stepG_op (P:=P) (b:=b) (a:=⟨tmps,[]⟩) (k:=k) (cs:=cs) (w:=w) (rest:=is) ho hw;have hfin:∀ v,(b.at ⟨tmps,[]⟩ (.inRegion ops (i::is)::k)).finish v=b.at ⟨putT tmps o.dst v,[]⟩ (.inRegion ops is::k):=by
  intro v;rw [Frame.finish_at,ho];simp only [Option.bind_some,put_act];cases o.dst <;> rfl
 obtain ⟨e,w'',hR,hsteps⟩:=hc.2 (b.at ⟨tmps,[]⟩ (.inRegion ops (i::is)::k)) cs (room_wide _);have henter:step P (lone (b.at ⟨tmps,[]⟩ (.inRegion ops (i::is)::k)) cs w) = .next (lone (Frame.round l fn tm aS bd .normal) (b.at ⟨tmps,[]⟩ (.inRegion ops (i::is)::k)::cs) w') :=
  step_lone_go (by rw [hg];simp [stepG.apply,hr,Frame.at])
 obtain ⟨v,rfl,hrun⟩:=h e w'' hR;obtain ⟨v2,w3,fr2,r,st,x⟩:=hrun b cs hb hk;refine ⟨v2,w3,fr2,r,Steps.head henter (Steps.trans (ComesIn.comes hsteps) ?_),x⟩;simp only [hfin];exact st
section
variable {P:Program}{f:FuncId}{n:Nat}{ops:Array Oper}{l:List Oper}{k:List Item}{fr:Fr}{H:List Res}{ρ R:Type}{x:Option ρ}{X:ρ→Option R}{K:R→AV→List Res→Prop}{ty t:TypeId}{d:Nat}{pos:String}{aft:Array Edge}
theorem tj {g:FuncId}{y:Operand}{args:Array Operand}{ts:Array TypeId}{avs:List AV}{Hin:List Res}{K1:AV→List Res→Prop}(js:List Nat)(hg:Ent P g)(hy:arg fr y=some (.lit (.func (.func g) #[] #[])))(hp:Spec P g avs Hin K1)(hpk:pickR H js=Hin)(ha:ArgsS fr args.toList avs)(hdn:Nat.blt d n=true)
  (h:∀ av H',K1 av H'→SimL P f n ops l k ((d,av)::fr) (H'++restR H js) x X K):SimL P f n ops (⟨some d,.call ⟨.value y,args,ts⟩,ty,pos,aft,none⟩::l) k fr H x X K:=by
 intro is hs r' hr w0 F0 Z0 w F Z tmps hn hi hf
 cases is with
 | nil=>simp at hs
 | cons i is =>
  simp only [List.map_cons,List.cons.injEq] at hs;have hdn':d<n:=by simpa [Nat.blt_eq] using hdn
  have all:∀ {x:Operand} {a:AV},arg fr x=some a→a.p Z w ((⟨tmps,[]⟩:Act).eval x):=by
   intro x a hx
   cases x with
   | tmp t=>exact hf t a hx
   | const v=>simp [arg] at hx;subst hx;rfl
   | func g=>simp [arg] at hx;subst hx;rfl
   | global g=>simp [arg] at hx;subst hx;rfl
  have hargs:=argsS_ok (ρ:=(⟨tmps,[]⟩:Act).eval) ha fun {x a} _ hx=>all hx
  obtain ⟨F1,hin,hback⟩:=hi.lend hpk;refine .enter hs.1 (wanted_none rfl) (call_run' (all hy) rfl hg) (hp w F1 Z _ hargs hin) ?_;rintro e w'' ⟨v,rfl,F',Z',av,H',hK,hinv,hv⟩;obtain ⟨F'',hi',hk⟩:=hback w'' F' Z' H' hinv;exact ⟨v,rfl,h av H' hK is hs.2 r' hr w0 F0 Z0 w'' F'' Z' _ (by simpa [putT] using hn) hi' ((hf.st hinv.z0 hk).put (by omega) hv)⟩
theorem jl {lb:Nat}{y:Operand}{args:Array Operand}{ts:Array TypeId}{avs:List AV}{Hin:List Res}{K1:AV→List Res→Prop}(js:List Nat)(hy:arg fr y=some (.lit (.func (.yield lb) #[] #[])))(hp:Rounds P lb avs Hin K1)(hpk:pickR H js=Hin)(ha:ArgsS fr args.toList avs)(hdn:Nat.blt d n=true)
  (h:∀ av H',K1 av H'→SimL P f n ops l k ((d,av)::fr) (H'++restR H js) x X K):SimL P f n ops (⟨some d,.call ⟨.value y,args,ts⟩,ty,pos,aft,none⟩::l) k fr H x X K:=by
 intro is hs r' hr w0 F0 Z0 w F Z tmps hn hi hf
 cases is with
 | nil=>simp at hs
 | cons i is =>
  simp only [List.map_cons,List.cons.injEq] at hs;have hdn':d<n:=by simpa [Nat.blt_eq] using hdn
  have all:∀ {x:Operand} {a:AV},arg fr x=some a→a.p Z w ((⟨tmps,[]⟩:Act).eval x):=by
   intro x a hx
   cases x with
   | tmp t=>exact hf t a hx
   | const v=>simp [arg] at hx;subst hx;rfl
   | func g=>simp [arg] at hx;subst hx;rfl
   | global g=>simp [arg] at hx;subst hx;rfl
  have hargs:=argsS_ok (ρ:=(⟨tmps,[]⟩:Act).eval) ha fun {x a} _ hx=>all hx
  obtain ⟨F1,hin,hback⟩:=hi.lend hpk;obtain ⟨fn,tm,aS,bd,hyr,hround⟩:=hp w F1 Z _ hargs hin;have e1:(⟨tmps,[]⟩:Act).eval y = .func (.yield lb) #[] #[]:=all hy;refine .round hs.1 (wanted_none rfl) (l:=lb) (fn:=fn) (tm:=tm) (aS:=aS) (bd:=bd) (w':=w) ?_ hround ?_
  ·have e2:#[]++args.map (⟨tmps,[]⟩:Act).eval=(args.toList.map (⟨tmps,[]⟩:Act).eval).toArray:=by apply Array.ext';simp
   simp only [execOp,resolve,e1,Deferred.ofValue,invoke,Sem.run_bind,Sem.run_pure,Result.andThen_ok,e2,hyr]
  ·rintro e w'' ⟨v,rfl,F',Z',av,H',hK,hinv,hv⟩;obtain ⟨F'',hi',hk⟩:=hback w'' F' Z' H' hinv;exact ⟨v,rfl,h av H' hK is hs.2 r' hr w0 F0 Z0 w'' F'' Z' _ (by simpa [putT] using hn) hi' ((hf.st hinv.z0 hk).put (by omega) hv)⟩
end
end S
namespace S
open Go.RowKit
def Res.obj (b:Nat)(o:Obj):Res:=⟨fun Z w F=>F b∧w.heap[b]?=some o,fun hz hk h=>⟨h.1,(hk b (.inr h.1)).trans h.2⟩⟩
section
variable {P:Program}{n:Nat}{ops:Array Oper}{fr:Fr}{H:List Res}{Fe:Fence}{m0:Nat}{ds:List Deferred}{Q:Exit→Act→World→Prop}{w0:World}{F0 Z0:Nat→Prop}
def WL (P:Program)(Fe:Fence)(m0:Nat)(ds:List Deferred)(n:Nat)(ops:Array Oper)(Q:Exit→Act→World→Prop)(w0:World)(F0 Z0:Nat→Prop)(js:List Nat)(fr:Fr)(H:List Res):Prop :=
 ∀ (w:World) (F Z:Nat→Prop) (tmps:Array Value),tmps.size=n→Inv w0 w F0 Z0 F Z H→FrOk fr Z w tmps→wpOpsIn Fe m0 P ops Q js ⟨tmps,ds⟩ w
theorem wp_value (hF:∀ f,Fe.fn f){i:Nat}{js:List Nat}{o:Oper}{tmps:Array Value}{w w':World}{v:Value}(ho:ops[i]?=some o)(hg:o.guard=none)(hnd:∀ c,o.op≠.defer c)(hr:(execOp (⟨tmps,[]⟩:Act).eval o).run P w = .ok (.value v) w')
  (h:wpOpsIn Fe m0 P ops Q js ⟨putT tmps o.dst v,ds⟩ w'):wpOpsIn Fe m0 P ops Q (i::js) ⟨tmps,ds⟩ w:=by
 simp only [wpOpsIn,ho,wanted_none hg,if_true];refine ⟨fun f _=>hF f,?_⟩;rw [Oper.semAt_eq _ _ _ hnd,show (⟨tmps,ds⟩:Act).eval=(⟨tmps,[]⟩:Act).eval from funext fun x=>by cases x <;> rfl,hr];show wpOpsIn Fe m0 P ops Q js ((⟨tmps,ds⟩:Act).put o.dst v) w';rw [show (⟨tmps,ds⟩:Act).put o.dst v=⟨putT tmps o.dst v,ds⟩ from by cases o.dst <;> rfl];exact h
theorem wp_skip (hF:∀ f,Fe.fn f){i:Nat}{js:List Nat}{o:Oper}{tmps:Array Value}{w w':World}(ho:ops[i]?=some o)(hg:o.guard=none)(hnd:∀ c,o.op≠.defer c)(hd:o.dst=none)(hr:(execOp (⟨tmps,[]⟩:Act).eval o).run P w = .ok .skip w')
  (h:wpOpsIn Fe m0 P ops Q js ⟨tmps,ds⟩ w'):wpOpsIn Fe m0 P ops Q (i::js) ⟨tmps,ds⟩ w:=by
 simp only [wpOpsIn,ho,wanted_none hg,if_true];refine ⟨fun f _=>hF f,?_⟩;rw [Oper.semAt_eq _ _ _ hnd,show (⟨tmps,ds⟩:Act).eval=(⟨tmps,[]⟩:Act).eval from funext fun x=>by cases x <;> rfl,hr];show wpOpsIn Fe m0 P ops Q js ((⟨tmps,ds⟩:Act).put o.dst undef) w';rw [hd];exact h
theorem wV (hF:∀ f,Fe.fn f){i d:Nat}{js:List Nat}{op:Op}{ty:TypeId}{pos:String}{aft:Array Edge}{I:Type}{av:I→AV}{H':I→List Res}
  (hop:∀ (o:Oper),o.op=op→o.type=ty→∀ (w0:World) (F0 Z0:Nat→Prop) (w:World) (F Z:Nat→Prop) (ρ:Operand→Value),Inv w0 w F0 Z0 F Z H→Rho op fr Z w ρ →
   ∃ v w' ι F' Z',(execOp ρ o).run P w = .ok (.value v) w'∧Inv w0 w' F0 Z0 F' Z' (H' ι)∧(∀ b,Z b→Z' b)∧Keep Z w w'∧(av ι).p Z' w' v)
  (ho:ops[i]?=some ⟨some d,op,ty,pos,aft,none⟩) (hnd:∀ c,op≠.defer c) (hdn:d<n) (h:∀ ι,WL P Fe m0 ds n ops Q w0 F0 Z0 js ((d,av ι)::fr) (H' ι)):WL P Fe m0 ds n ops Q w0 F0 Z0 (i::js) fr H:=by
 intro w F Z tmps hn hi hf;obtain ⟨v,w',ι,F',Z',hr,hi',hz,hk,hv⟩:=hop ⟨some d,op,ty,pos,aft,none⟩ rfl rfl w0 F0 Z0 w F Z (⟨tmps,[]⟩:Act).eval hi fun hm hx=>arg_ok (hf.on _) hx hm
 refine wp_value hF ho rfl hnd hr ?_;exact h ι w' F' Z' _ (by simpa [putT] using hn) hi' ((hf.st hz hk).put (by omega) hv)
theorem wE0 (hF:∀ f,Fe.fn f){i:Nat}{js:List Nat}{op:Op}{ty:TypeId}{pos:String}{aft:Array Edge}{H':List Res}
  (hop:∀ (o:Oper),o.op=op→∀ (w0:World) (F0 Z0:Nat→Prop) (w:World) (F Z:Nat→Prop) (ρ:Operand→Value),Inv w0 w F0 Z0 F Z H→Rho op fr Z w ρ →
   ∃ w' F' Z',(execOp ρ o).run P w = .ok .skip w'∧Inv w0 w' F0 Z0 F' Z' H'∧(∀ b,Z b→Z' b)∧Keep Z w w')
  (ho:ops[i]?=some ⟨none,op,ty,pos,aft,none⟩) (hnd:∀ c,op≠.defer c) (h:WL P Fe m0 ds n ops Q w0 F0 Z0 js fr H'):WL P Fe m0 ds n ops Q w0 F0 Z0 (i::js) fr H:=by
 intro w F Z tmps hn hi hf;obtain ⟨w',F',Z',hr,hi',hz,hk⟩:=hop ⟨none,op,ty,pos,aft,none⟩ rfl w0 F0 Z0 w F Z (⟨tmps,[]⟩:Act).eval hi fun hm hx=>arg_ok (hf.on _) hx hm
 exact wp_skip hF ho rfl hnd rfl hr (h w' F' Z' _ hn hi' (hf.st hz hk))
theorem wQ (hF:∀ f,Fe.fn f){i d:Nat}{js:List Nat}{op:Op}{ty:TypeId}{pos:String}{aft:Array Edge}{av:AV}(hD:D P n H op ty fr av)(hne:∀ (ρ:Operand→Value) (o:Oper) (w:World) g args w',o.op=op→(execOp ρ o).run P w≠.ok (.enter g args) w')
  (ho:ops[i]?=some ⟨some d,op,ty,pos,aft,none⟩) (hnd:∀ c,op≠.defer c) (hdn:d<n) (h:WL P Fe m0 ds n ops Q w0 F0 Z0 js ((d,av)::fr) H):WL P Fe m0 ds n ops Q w0 F0 Z0 (i::js) fr H:=by
 intro w F Z tmps hn hi hf;rcases hD ⟨some d,op,ty,pos,aft,none⟩ rfl rfl w0 F0 Z0 w F Z tmps hn hi (hf.on _) with ⟨v,w',hr,Z',hz,hz',hs,hv⟩|⟨g,args,w',R1,hr,_⟩
 ·refine wp_value hF ho rfl hnd hr ?_;exact h w' F Z' _ (by simpa [putT] using hn) (hi.quiet hs hz hz') ((hf.st hz (hi.keepZ hs fun _ x=>x.elim)).put (by omega) hv)
 ·exact absurd hr (hne _ _ _ _ _ _ rfl)
theorem ne_load {t:TypeId}{y:Operand}(ρ:Operand→Value)(o:Oper)(w:World)(g:FuncId)(args:Array Value)(w':World)(h:o.op = .load t y):(execOp ρ o).run P w≠.ok (.enter g args) w':=by
 simp only [execOp,h,Sem.run_bind];cases (Instr.loadAt t (ρ y)).run P w <;> simp [Result.andThen]
theorem ne_buildSlice {t:TypeId}{m:Nat}{ps:Array (Nat×Operand)}(ρ:Operand→Value)(o:Oper)(w:World)(g:FuncId)(args:Array Value)(w':World)(h:o.op = .buildSlice t m ps):(execOp ρ o).run P w≠.ok (.enter g args) w':=by
 simp only [execOp,h,Sem.run_bind];cases (Instr.buildSlice t m (ps.map fun (i,x)=>(i,ρ x))).run P w <;> simp [Result.andThen]
theorem Inv.put {w:World}{F Z:Nat→Prop}{j b:Nat}{o o':Obj}(hi:Inv w0 w F0 Z0 F Z H)(hj:H[j]?=some (.obj b o)):∃ F',Inv w0 (w.putObj b o') F0 Z0 F' Z (H.set j (.obj b o'))∧Keep Z w (w.putObj b o'):=by
 refine hi.turn hj fun F1 h1 _=>⟨F1,⟨rfl,rfl,rfl,Nat.le_refl _,by simp [World.putObj],fun c _ hc=>?_⟩,⟨h1.1,?_⟩,fun _ x=>.inl x⟩
 ·have:b≠c:=fun e=>hc (e ▸ h1.1)
  simp [World.putObj,this]
 ·have hlt:b<w.heap.size:=(Array.getElem?_eq_some_iff.1 h1.2).1;simp [World.putObj,hlt]
end
theorem apRound {P:Program}{T:Type}{c:Co T}{tS tE:TypeId}{zs:List Value}{az:List AV}{z:Value}{bytes Bs l:Nat}{rec:Loop}{v:Value}{ss:List T}{x:T}{i1 i2 i3:Nat}{t1 t2 t3 t4 t5 t6 t7:TypeId}{p1 p2 p3 p4 p5 p6 p7:String}{a1 a2 a3 a4 a5 a6 a7:Array Edge}
  (ht:P.underlying tS=some (.slice tE)) (hgS:IsAgg P tS false) (hzS:SizeIs P tS 1) (hgE:IsAgg P tE true) (hzE:SizeIs P tE c.sz) (hinfo:Info P tE z c.sz bytes) (hzs:z.cells.size=c.sz) (hb0:0<bytes) (hmx:Nat.ble (1*c.sz) 16777216=true)
  (hal:∀ w,(Instr.alloc tE true (.tuple #[])).run P w = .ok (.pointer (some ⟨w.heap.size,0,none⟩)) (w.alloc (.cells zs.toArray tE))) (haz:∀ Z w,AllP Z w az zs) (hazl:az.length=c.sz)
  (hsz:rec.tmps.size=13) (hBs:rec.tmps.getD 2 undef = .pointer (some ⟨Bs,0,none⟩)) (hps:rec.params=#[7]) (hst:rec.state = .ready) (hpe:rec.pending=none)
  (has:rec.assign = .region i2 #[⟨some 5,.alloc tE,t1,p1,a1,none⟩,⟨none,.store tE (.tmp 5) (.tmp 7),t2,p2,a2,none⟩] false)
  (hbd:rec.body = .block i1 (.region i3 #[⟨some 8,.load tS (.tmp 2),t3,p3,a3,none⟩,⟨some 9,.load tE (.tmp 5),t4,p4,a4,none⟩,⟨some 10,.buildSlice tS 1 #[(0,.tmp 9)],t5,p5,a5,none⟩,⟨some 11,.call ⟨.builtin .append,#[.tmp 8,.tmp 10],#[tS,tS]⟩,t6,p6,a6,none⟩,⟨none,.store tS (.tmp 2) (.tmp 11),t7,p7,a7,none⟩] false))
  (hb:(ss.length+1)*bytes≤140737488355328) :
  Rounds P l [.agg (c.e x)] [.box Bs [.sv v],.own tE c v ss,.obj l (.loop rec)] fun a H=>∃ v',a=Ab true∧H=[.box Bs [.sv v'],.own tE c v' (ss++[x]),.obj l (.loop rec)]:=by
 intro w F Z vs hvs hi
 cases hvs with
 | @cons _ vx _ vs' hvx hvs' =>
 cases hvs';obtain ⟨_,⟨_,hL⟩,_⟩:=hi.res.at (j:=2) rfl;refine ⟨rec.fn,rec.tmps.setIfInBounds 7 vx,rec.assign,rec.body,by have:=run_yield (P:=P) (args:=#[vx]) hL (by rw [hps];rfl);rw [hps] at this;simpa using this,roundIn_of_wpIn trivial ?_⟩;have hf0:FrOk [(2,AV.lit (.pointer (some ⟨Bs,0,none⟩)))] Z w rec.tmps:=by
  intro t a hta;simp only [look] at hta
  by_cases e':2=t
  ·subst e';simp at hta;subst hta;exact hBs
  ·have:(2 == t)=false:=by simpa using e'
   rw [this] at hta;cases hta
 have hf1:=hf0.put (d:=7) (by omega) hvx;rw [has];refine wpIn_region ?_;rw [show List.range (#[(⟨some 5,.alloc tE,t1,p1,a1,none⟩:Oper),⟨none,.store tE (.tmp 5) (.tmp 7),t2,p2,a2,none⟩]:Array Oper).size=[0,1] from rfl];have hsp:splice az 0 (c.e x)=c.e x:=by
  simp [splice,hazl,c.len]
 refine (show WL P (Fence.wide.inRound l) 0 [] 13 _ _ w F Z [0,1] _ _ from
  wV (fun _=>trivial) (d:=5) (I:=Nat) (av:=fun b=>.lit (.pointer (some ⟨b,0,none⟩))) (H':=fun b=>.box b az::[.box Bs [.sv v],.own tE c v ss,.obj l (.loop rec)]) (fun o ho hty w0 F0 Z0 w F Z ρ hi hf=>⟨.pointer (some ⟨w.heap.size,0,none⟩),w.alloc (.cells zs.toArray tE),w.heap.size,_,Z,by simp [execOp,ho,hal w,Sem.run_bind],hi.push _ (.box w.heap.size az) ⟨rfl,zs,tE,alloc_cells w zs tE,haz _ _⟩,fun _ x=>x,(Step.alloc w _ _).keep' hi,rfl⟩) rfl (fun c h=>by cases h) (by omega) fun b0 =>
  wE0 (fun _=>trivial) (stB_op (j:=0) (bs:=c.e x) hzE rfl rfl rfl cAgg (c.one x) (c.len x) (by rw [hazl];omega)) rfl (fun c h=>by cases h) fun w2 F2 Z2 tmps2 hn2 hi2 hf2=>?_) w F Z _ (by simpa using hsz) hi hf1
 rw [hsp] at hi2;simp only [List.set_cons_zero] at hi2;obtain ⟨_,⟨_,hL2⟩,_⟩:=hi2.res.at (j:=3) rfl;obtain ⟨F3,hi3,hk3⟩:=hi2.put (j:=3) (o':=.loop { rec with state:=.busy }) rfl;refine ⟨_,run_beginRound hL2 hst,?_⟩;have hrec:({ { rec with state:=.busy } with state:=if (none:Option Code).isNone then .ready else .done,pending:=none }:Loop)=rec:=by
  cases rec;simp_all
 generalize ({ rec with state:=.busy }:Loop)=rb at hi3 hk3 hrec ⊢;rw [hbd];refine wpIn_block (wpIn_region ?_);have hf3:=hf2.st (fun _ x=>x) hk3;simp only [List.set_cons_succ,List.set_cons_zero] at hi3;refine (show WL P (Fence.wide.inRound l) 0 [] 13 _ _ w F Z [0,1,2,3,4] _ _ from
  wQ (fun _=>trivial) (d:=8) (J3 (j:=1) (a:=.sv v) hgS rfl rfl rfl) ne_load rfl (fun c h=>by cases h) (by omega) <|
  wQ (fun _=>trivial) (d:=9) (av:=.agg (c.e x)) (by have:=yc (P:=P) (n:=13) (ty:=t4) (t:=tE) (y:=.tmp 5) (o:=0) (j:=0) (fr:=(8,AV.sv v)::(5,.lit (.pointer (some ⟨b0,0,none⟩)))::(7,.agg (c.e x))::[(2,AV.lit (.pointer (some ⟨Bs,0,none⟩)))]) (H:=[.box b0 (c.e x),.box Bs [.sv v],.own tE c v ss,.obj l (.loop rb)]) hgE hzE rfl rfl (by rw [c.len];omega);rw [List.drop_zero,List.take_of_length_le (by rw [c.len];exact Nat.le_refl _)] at this;exact this) ne_load rfl (fun c h=>by cases h) (by omega) <|
  wQ (fun _=>trivial) (d:=10) (dBS (c:=c) (xs:=[x]) ht hzE hinfo (.c rfl cAgg .nil) (by rw [Bool.and_eq_true];exact ⟨rfl,hmx⟩)) ne_buildSlice rfl (fun c h=>by cases h) (by omega) <|
  wV (fun _=>trivial) (d:=11) (I:=Value) (av:=fun v'=>.sv v') (H':=fun v'=>[.box b0 (c.e x),.box Bs [.sv v],.own tE c v' (ss++[x]),.obj l (.loop rb)]) (fun o ho hty w0 F0 Z0 w F Z ρ hinv hf=>by
   obtain ⟨e1,_⟩:=hf (x:=.tmp 8) (a:=.sv v) (by simp [Op.operands,Call.operands]) rfl;have e2:=cells_fsl (hf (x:=.tmp 10) (a:=.fsl c [x]) (by simp [Op.operands,Call.operands]) rfl);obtain ⟨v',w',F',hr,hi',hk,hsl⟩:=append_own (j:=2) (ty:=t6) hinv ht hinfo hzs rfl e2 hb hb0;exact ⟨v',w',v',F',Z,by simp [execOp,ho,hty,e1,hr,resolve,invoke,builtin,Sem.run_bind],hi',fun _ x=>x,hk,rfl,hsl⟩) rfl (fun c h=>by cases h) (by omega) fun v' =>
  wE0 (fun _=>trivial) (stB_op (j:=1) (bs:=[.sv v']) hzS rfl rfl rfl (cOne oSv) ⟨oSv,trivial⟩ rfl (by simp)) rfl (fun c h=>by cases h) fun w4 F4 Z4 tmps4 hn4 hi4 hf4=>?_) _ F3 Z2 tmps2 hn2 hi3 hf3
 simp only [List.set_cons_succ,List.set_cons_zero] at hi4;obtain ⟨_,⟨_,hL4⟩,_⟩:=hi4.res.at (j:=3) rfl;obtain ⟨F5,hi5,hk5⟩:=hi4.put (j:=3) (o':=.loop rec) rfl;refine ⟨_,_,run_endRound none hL4,?_⟩;rw [hrec];refine ⟨_,rfl,F5,Z4,Ab true,_,⟨v',rfl,rfl⟩,hi5.less (·.pickR [1,1,1]),rfl⟩
end S
namespace S
open Go.RowKit
set_option maxRecDepth 100000
structure KeysTy (P:Program){κ ν:Type}(c:Co κ)(ek:κ→Value)(ev:ν→Value)(tM kt et tS:TypeId)(zs:List Value)(az:List AV)(z:Value)(bytes:Nat):Prop where
 ht:P.underlying tM=some (.map kt et)
 gM:IsAgg P tM false
 hS:P.underlying tS=some (.slice kt)
 gS:IsAgg P tS false
 zS:SizeIs P tS 1
 gE:IsAgg P kt true
 zE:SizeIs P kt c.sz
 info:Info P kt z c.sz bytes
 zz:z.cells.size=c.sz
 b0:0<bytes
 mx:Nat.ble (1*c.sz) 16777216=true
 al:∀ w,(Instr.alloc kt true (.tuple #[])).run P w = .ok (.pointer (some ⟨w.heap.size,0,none⟩)) (w.alloc (.cells zs.toArray kt))
 azp:∀ Z w,AllP Z w az zs
 azl:az.length=c.sz
 cell:∀ k,CellsOf (.lit (ek k)) (c.e k)
structure ApRec (tS kt:TypeId)(Bs:Nat)(rec:Loop):Prop where
 sz:rec.tmps.size=13
 box:rec.tmps.getD 2 undef = .pointer (some ⟨Bs,0,none⟩)
 par:rec.params=#[7]
 st:rec.state = .ready
 pe:rec.pending=none
 aS:∃ i2 t1 p1 a1 t2 p2 a2,rec.assign = .region i2 #[⟨some 5,.alloc kt,t1,p1,a1,none⟩,⟨none,.store kt (.tmp 5) (.tmp 7),t2,p2,a2,none⟩] false
 bd:∃ i1 i3 t3 p3 a3 t4 p4 a4 t5 p5 a5 t6 p6 a6 t7 p7 a7,rec.body = .block i1 (.region i3 #[⟨some 8,.load tS (.tmp 2),t3,p3,a3,none⟩,⟨some 9,.load kt (.tmp 5),t4,p4,a4,none⟩,⟨some 10,.buildSlice tS 1 #[(0,.tmp 9)],t5,p5,a5,none⟩,⟨some 11,.call ⟨.builtin .append,#[.tmp 8,.tmp 10],#[tS,tS]⟩,t6,p6,a6,none⟩,⟨none,.store tS (.tmp 2) (.tmp 11),t7,p7,a7,none⟩] false)
section
variable {P:Program}{κ ν:Type}{c:Co κ}{ek:κ→Value}{ev:ν→Value}{tM kt et tS:TypeId}{zs:List Value}{az:List AV}{z:Value}{bytes:Nat}
theorem rounds_of (Y:KeysTy P c ek ev tM kt et tS zs az z bytes){Bs l:Nat}{rec:Loop}(A:ApRec tS kt Bs rec){v:Value}{ss:List κ}(x:κ)(hb:(ss.length+1)*bytes≤140737488355328) :
  Rounds P l [.agg (c.e x)] [.box Bs [.sv v],.own kt c v ss,.obj l (.loop rec)] fun a H=>∃ v',a=Ab true∧H=[.box Bs [.sv v'],.own kt c v' (ss++[x]),.obj l (.loop rec)]:=by
 obtain ⟨i2,t1,p1,a1,t2,p2,a2,has⟩:=A.aS;obtain ⟨i1,i3,t3,p3,a3,t4,p4,a4,t5,p5,a5,t6,p6,a6,t7,p7,a7,hbd⟩:=A.bd;exact apRound Y.hS Y.gS Y.zS Y.gE Y.zE Y.info Y.zz Y.b0 Y.mx Y.al Y.azp Y.azl A.sz A.box A.par A.st A.pe has hbd hb
theorem perm_erase {α:Type}:∀ {l:List α} {i:Nat} {a:α},l[i]?=some a→l.Perm (a::l.eraseIdx i)
 | b::l,0,a,h=>by simp at h;subst h;exact List.Perm.refl _
 | b::l,i+1,a,h=>by
  have:=perm_erase (l:=l) (i:=i) (a:=a) (by simpa using h);exact ((this.cons b).trans (List.Perm.swap ..))
set_option maxHeartbeats 1000000 in
theorem keysIter (Y:KeysTy P c ek ev tM kt et tS zs az z bytes){Bs l b:Nat}{rec:Loop}(A:ApRec tS kt Bs rec){v:Value}{es:List (κ×ν)}(hbd:es.length*bytes≤140737488355328)
  {g:FuncId} {fn:Func} {i0 i2 i4 i5:Nat} {t1 t2 t3 t4 t5 t6 t7 t8 t9 t10 t11 t12 t13:TypeId} {q:Array TypeId} {p1 p2 p3 p4 p5 p6 p7 p8 p9 p10 p11 p12:String} {a1 a2 a3 a4 a5 a6 a7 a8 a9 a10 a11 a12:Array Edge}
  (hf:P.funcs[g]?=some fn) (hn:fn.ntmps=14) (hr:fn.results=#[])
  (hb:fn.body=some (.seq (.region i0 #[⟨some 4,.load tM (.tmp 1),t1,p1,a1,none⟩,⟨some 5,.range tM (.tmp 4),t2,p2,a2,none⟩] false)
   (.block 0 (.loop (.seq (.region i2 #[⟨some 6,.next (.tmp 5) false,t3,p3,a3,none⟩,⟨some 7,.extract (.tmp 6) 0,t4,p4,a4,none⟩] false)
    (.seq (.cond (.tmp 7) .skip (.exit 0)) (.block 1 (.seq (.region i4 #[⟨some 8,.entry (.tmp 5),t5,p5,a5,none⟩,⟨some 9,.extract (.tmp 8) 0,t6,p6,a6,none⟩,⟨some 3,.alloc kt,t7,p7,a7,none⟩,⟨none,.store kt (.tmp 3) (.tmp 9),t8,p8,a8,none⟩] false)
     (.seq (.region i5 #[⟨some 10,.move (.tmp 0),t9,p9,a9,none⟩,⟨some 11,.load kt (.tmp 3),t10,p10,a10,none⟩,⟨some 12,.call ⟨.value (.tmp 10),#[.tmp 11],q⟩,t11,p11,a11,none⟩,⟨some 13,.unOp .not t13 (.tmp 12),t12,p12,a12,none⟩] false)
      (.cond (.tmp 13) .ret .skip)))))))))) :
  Spec P g [.lit (.func (.yield l) #[] #[]),.fptr [.lit (.map (some b))]] [.mp ek ev b es,.box Bs [.sv v],.own kt c v [],.obj l (.loop rec)]
   fun a H=>∃ v' ss,ss.Perm (es.map (·.1))∧H=[.mp ek ev b es,.box Bs [.sv v'],.own kt c v' ss,.obj l (.loop rec)]:=by
 have main:=spec_of (H:=[.mp ek ev b es,.box Bs [.sv v],.own kt c v [],.obj l (.loop rec)]) (avs:=[.lit (.func (.yield l) #[] #[]),.fptr [.lit (.map (some b))]]) (x:=some ()) (K:=fun (_:Unit) (a:AV) H=>∃ v' ss,ss.Perm (es.map (·.1))∧H=[.mp ek ev b es,.box Bs [.sv v'],.own kt c v' ss,.obj l (.loop rec)]) hf hb (by rw [hn];exact (show 2≤14 by decide)) ?_
 ·exact main () rfl
 rw [hn];refine P1<|G3 rfl<|sQ (dLd Y.gM rfl rfl) rfl<|tl (j:=0) Y.ht rfl rfl rfl fun r=>k0 ?_
 refine y7 ?_;refine (sWk [] (fr':=[(0,.lit (.func (.yield l) #[] #[])),(5,.lit (.pointer (some ⟨r,0,none⟩)))]) ⟨rfl,rfl,trivial⟩ rfl ?_);refine fl (σ:={ s:List (κ×ν)×Option (κ×ν)×List κ×Value // (s.2.2.1++s.1.map (·.1)).Perm (es.map (·.1)) }) (fun s=>s.1.1.length)
  (fun s=>[(0,.lit (.func (.yield l) #[] #[])),(5,.lit (.pointer (some ⟨r,0,none⟩)))])
  (fun s=>[.it ek ev b r es s.1.1 s.1.2.1,.box Bs [.sv s.1.2.2.2],.own kt c s.1.2.2.2 s.1.2.2.1,.obj l (.loop rec)]) ?_ ⟨(es,none,[],v),List.Perm.refl _⟩
 rintro ⟨⟨left,cur,ss,v⟩,hp⟩ again;simp only at hp again ⊢;refine P1<|G3 rfl<|ym (j:=0) rfl rfl rfl (fun hl=>?_) (fun i p hi=>?_)
 ·refine sQ (dX rfl rfl) rfl<|k0<|P1<|g8 rfl rfl<|G5 rfl<|gm 0 rfl it_mp<|tf hf hr ?_;subst hl;exact ⟨v,ss,by simpa using hp,rfl⟩
 ·have hlen:ss.length+left.length=es.length:=by have:=hp.length_eq;simpa using this
  have hil:i<left.length:=(List.getElem?_eq_some_iff.1 hi).1;have hb1:(ss.length+1)*bytes≤140737488355328:=Nat.le_trans (Nat.mul_le_mul_right _ (by omega)) hbd;refine sQ (dX rfl rfl) rfl<|k0<|P1<|y6 rfl rfl<|M1<|y7<|P1<|G3 rfl<|sQ (qm (j:=0) rfl rfl) rfl<|sQ (dX rfl rfl) rfl<|J8 Y.al Y.azp rfl fun b3=>?_
  refine J9 (j:=0) (bs:=c.e p.1) Y.zE rfl rfl rfl (Y.cell p.1) (c.one _) (c.len _) (by rw [Y.azl];omega) ?_;have hsp:splice az 0 (c.e p.1)=c.e p.1:=by simp [splice,Y.azl,c.len]
  rw [hsp];refine k0<|P1<|G3 rfl<|sQ (dMv rfl) rfl<|sQ (av:=.agg (c.e p.1)) ?_ rfl<|jl (avs:=[.agg (c.e p.1)]) [2,2,2] rfl (rounds_of Y A p.1 hb1) rfl (.s rfl .nil) rfl fun av H' ⟨v',e1,e2⟩=>?_
  ·have:=yc (P:=P) (n:=14) (ty:=t10) (t:=kt) (y:=.tmp 3) (b:=b3) (o:=0) (j:=0) (aS:=c.e p.1)
    (H:=[.box b3 (c.e p.1),.it ek ev b r es (left.eraseIdx i) (some p),.box Bs [.sv v],.own kt c v ss,.obj l (.loop rec)])
    (fr:=(10,.lit (.func (.yield l) #[] #[]))::(3,.lit (.pointer (some ⟨b3,0,none⟩)))::(9,.lit (ek p.1))::(8,.tup [.lit (ek p.1),.lit (ev p.2)])::(7,Ab true)::(6,.tup [Ab true,.lit (ek p.1),.lit (ev p.2)])::[(0,.lit (.func (.yield l) #[] #[])),(5,.lit (.pointer (some ⟨r,0,none⟩)))])
    Y.gE Y.zE rfl rfl (by rw [c.len];omega)
   rw [List.drop_zero,List.take_of_length_le (by rw [c.len];exact Nat.le_refl _)] at this;exact this
  ·subst e1 e2;refine sQ (tc rfl) rfl<|k0<|g8 rfl rfl<|M1<|J1<|sPk [4,0,0,0] rfl<|sWk [] (fr':=[(0,.lit (.func (.yield l) #[] #[])),(5,.lit (.pointer (some ⟨r,0,none⟩)))]) ⟨rfl,rfl,trivial⟩ rfl<|again ⟨(left.eraseIdx i,some p,ss++[p.1],v'),?_⟩ ?_
   ·refine List.Perm.trans ?_ hp;simp only [List.append_assoc,List.singleton_append];exact List.Perm.append_left ss ((perm_erase hi).map (fun y:κ×ν=>y.1)).symm
   ·simp only [List.length_eraseIdx,hil,if_true];omega
end
end S
namespace S
open Go.RowKit
set_option maxRecDepth 100000
def AV.keys (g b:Nat):AV :=
 ⟨fun Z w u=>∃ p,u = .func (.func g) #[] #[p]∧(AV.fptr [.lit (.map (some b))]).p Z w p,fun hz hk ⟨p,e,h⟩=>⟨p,e,AV.st _ hz hk h⟩⟩
theorem Inv.more {w0 w:World}{F0 Z0 F Z:Nat→Prop}{H:List Res}(hi:Inv w0 w F0 Z0 F Z H){r:Res}(hr:r.h Z w (fun _=>False)):Inv w0 w F0 Z0 F Z (r::H) :=
 ⟨hi.base,hi.z0,hi.zin,hi.fin,⟨fun _=>False,F,hr,hi.res,fun _ h=>h.elim,fun _ h=>h⟩⟩
theorem ne_pure {P:Program}{op:Op}{y:Operand}(h:op = .move y∨op = .assign y)(ρ:Operand→Value)(o:Oper)(w:World)(g:FuncId)(args:Array Value)(w':World)(ho:o.op=op):(execOp ρ o).run P w≠.ok (.enter g args) w':=by
 rcases h with rfl|rfl <;> simp [execOp,ho]
section
variable {P:Program}{κ ν:Type}{c:Co κ}{ek:κ→Value}{ev:ν→Value}{tM kt et tS:TypeId}{zs:List Value}{az:List AV}{z:Value}{bytes:Nat}
set_option maxHeartbeats 2000000 in
theorem appendSeq (Y:KeysTy P c ek ev tM kt et tS zs az z bytes){b:Nat}{es:List (κ×ν)}{g:FuncId}(hg:Ent P g)
  (hit:∀ {Bs l:Nat} {rec:Loop} {v:Value},ApRec tS kt Bs rec→Spec P g [.lit (.func (.yield l) #[] #[]),.fptr [.lit (.map (some b))]] [.mp ek ev b es,.box Bs [.sv v],.own kt c v [],.obj l (.loop rec)]
   fun a H=>∃ v' ss,ss.Perm (es.map (·.1))∧H=[.mp ek ev b es,.box Bs [.sv v'],.own kt c v' ss,.obj l (.loop rec)])
  {f:FuncId} {fn:Func} {i0 i1 i2 i3 i4:Nat} {t1 t2 t3 t4 t5 t6 t7 t8 t9 t10 t11 t12:TypeId} {p1 p2 p3 p4 p5 p6 p7 p8 p9 p10 p11 p12:String} {a1 a2 a3 a4 a5 a6 a7 a8 a9 a10 a11 a12:Array Edge}
  (hf:P.funcs[f]?=some fn) (hn:fn.ntmps=13) (hr:fn.results=#[.tmp 4])
  (hb:fn.body=some (.seq (.region i0 #[⟨some 2,.box tS (.tmp 0),t1,p1,a1,none⟩,⟨some 4,.assign (.const (.slice none 0 0)),t2,p2,a2,none⟩] false)
   (.seq (.seq (.region i1 #[⟨some 6,.move (.tmp 1),t3,p3,a3,none⟩] false)
    (.block 0 (.rangeFunc (.tmp 6) #[7] (.region i2 #[⟨some 5,.alloc kt,t4,p4,a4,none⟩,⟨none,.store kt (.tmp 5) (.tmp 7),t5,p5,a5,none⟩] false)
     (.block 1 (.region i3 #[⟨some 8,.load tS (.tmp 2),t6,p6,a6,none⟩,⟨some 9,.load kt (.tmp 5),t7,p7,a7,none⟩,⟨some 10,.buildSlice tS 1 #[(0,.tmp 9)],t8,p8,a8,none⟩,⟨some 11,.call ⟨.builtin .append,#[.tmp 8,.tmp 10],#[tS,tS]⟩,t9,p9,a9,none⟩,⟨none,.store tS (.tmp 2) (.tmp 11),t10,p10,a10,none⟩] false)))))
    (.seq (.region i4 #[⟨some 12,.load tS (.tmp 2),t11,p11,a11,none⟩,⟨some 4,.assign (.tmp 12),t12,p12,a12,none⟩] false) .ret)))) :
  Spec P f [.lit (.slice none 0 0),.keys g b] [.mp ek ev b es] fun a H=>∃ v ss,a = .sv v∧ss.Perm (es.map (·.1))∧H=[.own kt c v ss,.mp ek ev b es]:=by
 intro w F Z vs hvs hi
 cases hvs with
 | @cons _ v0 _ vs' hv0 hvs' =>
 cases hvs' with
 | @cons _ u _ vs'' hu hvs'' =>
 cases hvs'';have hv0':v0 = .slice none 0 0:=hv0;subst hv0';refine callsIn_wide.1 (callsIn_of_wp_marks (n:=0) (F:=Fence.wide) hf hb trivial ?_);have hall:AllP Z w [.sv (.slice none 0 0),.keys g b] [.slice none 0 0,u]:=.cons ⟨rfl,_,_,_,rfl⟩ (.cons hu .nil);have hf0:FrOk (frOf 0 [.sv (.slice none 0 0),.keys g b]) Z w (([.slice none 0 0,u]:List Value).toArray++Array.replicate (fn.ntmps-([.slice none 0 0,u]:List Value).toArray.size) undef):=frOf_ok hall 0 _ fun j v hj=>by
  match j,hj with
  | 0,hj=>simp at hj;subst hj;rw [hn];rfl
  | 1,hj=>simp at hj;subst hj;rw [hn];rfl
  | j+2,hj=>simp at hj
 rw [hn] at hf0 ⊢;refine wpIn_seq (wpIn_region ?_);refine (show WL P Fence.wide 0 [] 13 _ _ w F Z [0,1] _ _ from
  wV (fun _=>trivial) (d:=2) (I:=Nat) (av:=fun B=>.lit (.pointer (some ⟨B,0,none⟩))) (H':=fun B=>[.box B [.sv (.slice none 0 0)],.mp ek ev b es]) (fun o ho hty w0 F0 Z0 w F Z ρ hi hf=>⟨.pointer (some ⟨w.heap.size,0,none⟩),w.alloc (.cells (ρ (.tmp 0)).cells.toList.toArray tS),w.heap.size,_,Z,by simp only [execOp,ho,box_run,Sem.run_bind,Result.andThen_ok,Sem.run_pure],hi.push _ (.box w.heap.size [.sv (.slice none 0 0)]) ⟨rfl,_,tS,alloc_cells w _ tS,cOne oSv _ _ _ (AV.st _ (fun _ x=>x) ((Step.alloc w _ _).keep' hi) (hf (by simp [Op.operands]) rfl))⟩,fun _ x=>x,(Step.alloc w _ _).keep' hi,rfl⟩) rfl (fun c h=>by cases h) (by omega) fun B =>
  wQ (fun _=>trivial) (d:=4) (dAs rfl) (ne_pure (.inr rfl)) rfl (fun c h=>by cases h) (by omega) fun w1 F1 Z1 tm1 hn1 hi1 hf1=>?_) w F Z _ (by simp) hi hf0
 refine wpIn_seq (wpIn_seq (wpIn_region ?_));refine (show WL P Fence.wide 0 [] 13 _ _ w F Z [0] _ _ from wQ (fun _=>trivial) (d:=6) (dMv rfl) (ne_pure (.inl rfl)) rfl (fun c h=>by cases h) (by omega) fun w2 F2 Z2 tm2 hn2 hi2 hf2=>?_) w1 F1 Z1 tm1 hn1 hi1 hf1;refine wpIn_block (wpIn_rangeFunc ?_);intro fnn _;have e6:(AV.keys g b).p Z2 w2 (tm2.getD 6 undef):=hf2 6 _ rfl;obtain ⟨p,hp,hfp⟩:=e6;have e2:tm2.getD 2 undef = .pointer (some ⟨B,0,none⟩):=hf2 2 _ rfl;have hi3:=(hi2.push (.deferred (some [])) (.obj w2.heap.size (.deferred (some []))) ⟨rfl,heap_alloc_new w2 _⟩)
 generalize hrec:({ state:=.ready,pending:=none,fn:=fnn,tmps:=tm2,params:=#[7],assign:=.region i2 #[⟨some 5,.alloc kt,t4,p4,a4,none⟩,⟨none,.store kt (.tmp 5) (.tmp 7),t5,p5,a5,none⟩] false,body:=.block 1 (.region i3 #[⟨some 8,.load tS (.tmp 2),t6,p6,a6,none⟩,⟨some 9,.load kt (.tmp 5),t7,p7,a7,none⟩,⟨some 10,.buildSlice tS 1 #[(0,.tmp 9)],t8,p8,a8,none⟩,⟨some 11,.call ⟨.builtin .append,#[.tmp 8,.tmp 10],#[tS,tS]⟩,t9,p9,a9,none⟩,⟨none,.store tS (.tmp 2) (.tmp 11),t10,p10,a10,none⟩] false),defers:=w2.heap.size }:Loop)=rec;have hA:ApRec tS kt B rec:=by
  subst hrec;exact ⟨hn2,e2,rfl,rfl,rfl,⟨_,_,_,_,_,_,_,rfl⟩,⟨_,_,_,_,_,_,_,_,_,_,_,_,_,_,_,_,_,rfl⟩⟩
 have hi4:=(hi3.push (.loop rec) (.obj (w2.alloc (.deferred (some []))).heap.size (.loop rec)) ⟨rfl,heap_alloc_new _ _⟩).more (r:=.own kt c (.slice none 0 0) []) (.inr ⟨rfl,none,rfl⟩);have hk4:Keep Z2 w2 ((w2.alloc (.deferred (some []))).alloc (.loop rec)):=fun x hx=>by
  have hlt:=(hi2.zin x hx).1;rw [Below.heap_alloc _ _ x (by simp;omega),Below.heap_alloc _ _ x hlt]
 obtain ⟨F5,hin,hback⟩:=hi4.lend (js:=[4,3,0,0]) (Hin:=[.mp ek ev b es,.box B [.sv (.slice none 0 0)],.own kt c (.slice none 0 0) [],.obj (w2.alloc (.deferred (some []))).heap.size (.loop rec)]) rfl;have hl1:(w2.alloc (.deferred (some []))).heap.size=w2.heap.size+1:=by simp
 rw [hl1] at hin hback;refine ⟨w2.heap.size+1,[{ target:=.collected w2.heap.size,args:=#[] }],(w2.alloc (.deferred (some []))).alloc (.loop rec),{ target:=.fn (.func g) #[p],args:=#[.func (.yield (w2.heap.size+1)) #[] #[]] },(w2.alloc (.deferred (some []))).alloc (.loop rec),g,#[.func (.yield (w2.heap.size+1)) #[] #[]]++#[p],(w2.alloc (.deferred (some []))).alloc (.loop rec),?_,?_,fun _ _=>trivial,?_,fun h=>by simp [Fence.wide] at h,?_⟩
 ·rw [← hrec];exact run_enterLoop_outer _ _ _ _ _
 ·have e6':(⟨tm2,[]⟩:Act).eval (.tmp 6) = .func (.func g) #[] #[p]:=hp;have e7:(⟨tm2,[]⟩:Act).eval (.const (.func (.yield (w2.heap.size+1)) #[] #[])) = .func (.yield (w2.heap.size+1)) #[] #[]:=rfl;simp only [resolve,rangeCall,e6',Deferred.ofValue,List.map_toArray,List.map_cons,List.map_nil,e7,Sem.run_pure];rfl
 ·exact hg _ _
 ·refine callsIn_wide.2 ((hit hA _ F5 Z2 [.func (.yield (w2.heap.size+1)) #[] #[],p] (.cons rfl (.cons (AV.st _ (fun _ x=>x) hk4 hfp) .nil)) hin).mono ?_);rintro e w5 ⟨vr,rfl,F6,Z6,av,H6,⟨v',ss,hperm,rfl⟩,hinv,_⟩;obtain ⟨F7,hi7,hk7⟩:=hback w5 F6 Z6 _ hinv;have hi7':Inv w w5 F Z F7 Z6 [.mp ek ev b es,.box B [.sv v'],.own kt c v' ss,.obj (w2.heap.size+1) (.loop rec),.obj w2.heap.size (.deferred (some []))]:=hi7;obtain ⟨_,⟨_,hL⟩,_⟩:=hi7'.res.at (j:=3) rfl;have hst:rec.state≠.busy:=by rw [hA.st];decide
  obtain ⟨F8,hi8,hk8⟩:=hi7'.put (j:=3) (o':=.loop { rec with state:=.exhausted }) rfl;have hend:=run_endLoop (P:=P) hL hst;generalize ({ rec with state:=.exhausted }:Loop)=rx at hi8 hk8 hend;rw [hA.pe] at hend;refine ⟨none,_,hend,?_⟩;have hf8:FrOk _ Z6 (w5.putObj (w2.heap.size+1) (.loop rx)) tm2:=(((hf2.st (fun _ x=>x) hk4).st hinv.z0 hk7).st (fun _ x=>x) hk8)
  refine wpIn_seq (wpIn_region ?_);refine (show WL P Fence.wide 0 [{ target:=.collected w2.heap.size,args:=#[] }] 13 _ _ w F Z [0,1] _ _ from
   wQ (fun _=>trivial) (d:=12) (J3 (j:=1) (a:=.sv v') Y.gS rfl rfl rfl) ne_load rfl (fun c h=>by cases h) (by omega) <|
   wQ (fun _=>trivial) (d:=4) (dAs rfl) (ne_pure (.inr rfl)) rfl (fun c h=>by cases h) (by omega) fun w9 F9 Z9 tm9 hn9 hi9 hf9=>?_) _ F8 Z6 tm2 hn2 hi8 hf8
  refine wpIn_ret ?_;obtain ⟨_,⟨_,hK⟩,_⟩:=hi9.res.at (j:=4) rfl;obtain ⟨F10,hi10,hk10⟩:=hi9.put (j:=4) (o':=.deferred none) rfl;refine ⟨by simp,.inl ⟨_,_,rfl,run_takeDeferred hK,?_⟩⟩;obtain ⟨v1,e1,q1⟩:=rT (P:=P) (H:=[]) (fr:=(4,AV.sv v')::(12,AV.sv v')::_) (u:=4) rfl Z9 (fun _=>False) _ tm9 trivial (hf9.st (fun _ x=>x) hk10);exact ⟨v1,results1 hr e1,v1,rfl,F10,Z9,.sv v',_,⟨v',ss,rfl,hperm,rfl⟩,hi10.less (·.pickR [2,0]),q1⟩
end
end S
namespace S
open Go.RowKit
set_option maxRecDepth 100000
section
variable {P:Program}{f:FuncId}{n:Nat}{H:List Res}{fr:Fr}{ty:TypeId}{κ ν:Type}{c:Co κ}{ek:κ→Value}{ev:ν→Value}{kt tS:TypeId}
theorem dMkF {g b:Nat}{y:Operand}(hy:arg fr y=some (.fptr [.lit (.map (some b))])):D P n H (.makeFunc (.func g) #[] #[y]) ty fr (.keys g b) :=
 .of fun o ho hty w Z F ρ _ hf=>by
  have hp:=hf (by simp [Op.operands]) hy;exact ⟨.func (.func g) #[] #[ρ y],by simp [execOp,ho,Instr.makeFunc,Sem.run_bind],ρ y,rfl,hp⟩
theorem keysFn {tM:TypeId}{b g:Nat}{fn:Func}{i0 i1:Nat}{t1 t2 t3 t4:TypeId}{p1 p2 p3 p4:String}{a1 a2 a3 a4:Array Edge}
  (hf:P.funcs[f]?=some fn) (hn:fn.ntmps=4) (hr:fn.results=#[.tmp 2])
  (hb:fn.body=some (.seq (.region i0 #[⟨some 1,.box tM (.tmp 0),t1,p1,a1,none⟩,⟨some 2,.assign (.const .nilFunc),t2,p2,a2,none⟩] false)
   (.seq (.region i1 #[⟨some 3,.makeFunc (.func g) #[] #[.tmp 1],t3,p3,a3,none⟩,⟨some 2,.assign (.tmp 3),t4,p4,a4,none⟩] false) .ret))) :
  Pure P f [.lit (.map (some b))] (some ()) fun _=>.keys g b :=
 spec_of' hf hb hn (by exact (show 1≤4 by decide))<|P1<|G3 rfl<|sQ (mb (az:=[.lit (.map (some b))]) rfl (cOne (oLit rfl))) rfl<|sQ (dAs rfl) rfl<|k0<|P1<|G3 rfl<|sQ (dMkF rfl) rfl<|sQ (dAs rfl) rfl<|k0<|V1 [] hf hr (rT rfl) ⟨rfl,rfl⟩
def KeysPost (kt:TypeId)(c:Co κ)(ek:κ→Value)(ev:ν→Value)(b:Nat)(es:List (κ×ν))(a:AV)(H:List Res):Prop:=∃ v ss,a = .sv v∧ss.Perm (es.map (·.1))∧H=[.own kt c v ss,.mp ek ev b es]
theorem collectFn {b g f44:Nat}{es:List (κ×ν)}(hg:Ent P f44)(hap:Spec P f44 [.lit (.slice none 0 0),.keys g b] [.mp ek ev b es] (KeysPost kt c ek ev b es))
  {fn:Func} {i0 i1:Nat} {t1 t2 t3 t4:TypeId} {q:Array TypeId} {p1 p2 p3 p4:String} {a1 a2 a3 a4:Array Edge}
  (hf:P.funcs[f]?=some fn) (hn:fn.ntmps=5) (hr:fn.results=#[.tmp 2])
  (hb:fn.body=some (.seq (.region i0 #[⟨some 2,.assign (.const (.slice none 0 0)),t1,p1,a1,none⟩] false)
   (.seq (.region i1 #[⟨some 3,.move (.tmp 0),t2,p2,a2,none⟩,⟨some 4,.call ⟨.value (.func f44),#[.const (.slice none 0 0),.tmp 3],q⟩,t3,p3,a3,none⟩,⟨some 2,.assign (.tmp 4),t4,p4,a4,none⟩] false) .ret))) :
  Spec P f [.keys g b] [.mp ek ev b es] (KeysPost kt c ek ev b es):=by
 have main:=spec_of (H:=[.mp ek ev b es]) (avs:=[.keys g b]) (x:=some ()) (K:=fun (_:Unit) a H=>KeysPost kt c ek ev b es a H) hf hb (by rw [hn];exact (show 1≤5 by decide)) ?_
 ·exact main () rfl
 rw [hn];refine P1<|G3 rfl<|sQ (dAs rfl) rfl<|k0<|P1<|G3 rfl<|sQ (dMv rfl) rfl<|tj [0] hg rfl hap rfl (.s rfl (.s rfl .nil)) rfl fun av H' h=>?_
 obtain ⟨v,ss,rfl,hp,rfl⟩:=h;exact sQ (dAs rfl) rfl<|k0<|V1 [] hf hr (rT rfl) ⟨v,ss,rfl,hp,rfl⟩
theorem sortedFn {b g f32 f33 gc:Nat}{es:List (κ×ν)}{Sd:List κ→Prop}(hg:Ent P f32)(hg':Ent P f33)(hco:Spec P f32 [.keys g b] [.mp ek ev b es] (KeysPost kt c ek ev b es))
  (hso:∀ v ss,ss.Perm (es.map (·.1))→Spec P f33 [.sv v,.lit (.func (.func gc) #[] #[])] [.own kt c v ss] fun a H=>∃ ys,ys.Perm ss∧Sd ys∧H=[.own kt c v ys])
  {fn:Func} {i0 i1 i2 i3:Nat} {t1 t2 t3 t4 t5 t6 t7 t8 t9:TypeId} {q q':Array TypeId} {p1 p2 p3 p4 p5 p6 p7 p8 p9:String} {a1 a2 a3 a4 a5 a6 a7 a8 a9:Array Edge}
  (hf:P.funcs[f]?=some fn) (hn:fn.ntmps=12) (hr:fn.results=#[.tmp 4])
  (hb:fn.body=some (.seq (.region i0 #[⟨some 4,.assign (.const (.slice none 0 0)),t1,p1,a1,none⟩] false)
   (.seq (.region i1 #[⟨some 6,.move (.tmp 0),t2,p2,a2,none⟩,⟨some 7,.call ⟨.value (.func f32),#[.tmp 6],q⟩,t3,p3,a3,none⟩,⟨some 5,.assign (.tmp 7),t4,p4,a4,none⟩] false)
    (.seq (.region i2 #[⟨some 8,.move (.tmp 5),t5,p5,a5,none⟩,⟨some 9,.move (.tmp 1),t6,p6,a6,none⟩,⟨some 10,.call ⟨.value (.func f33),#[.tmp 8,.tmp 9],q'⟩,t7,p7,a7,none⟩] false)
     (.seq (.region i3 #[⟨some 11,.move (.tmp 5),t8,p8,a8,none⟩,⟨some 4,.assign (.tmp 11),t9,p9,a9,none⟩] false) .ret))))) :
  Spec P f [.keys g b,.lit (.func (.func gc) #[] #[])] [.mp ek ev b es] fun a H=>∃ v ys,a = .sv v∧ys.Perm (es.map (·.1))∧Sd ys∧H=[.own kt c v ys,.mp ek ev b es]:=by
 have main:=spec_of (H:=[.mp ek ev b es]) (avs:=[.keys g b,.lit (.func (.func gc) #[] #[])]) (x:=some ()) (K:=fun (_:Unit) a H=>∃ v ys,a = .sv v∧ys.Perm (es.map (·.1))∧Sd ys∧H=[.own kt c v ys,.mp ek ev b es]) hf hb (by rw [hn];exact (show 2≤12 by decide)) ?_
 ·exact main () rfl
 rw [hn];refine P1<|G3 rfl<|sQ (dAs rfl) rfl<|k0<|P1<|G3 rfl<|sQ (dMv rfl) rfl<|tj [0] hg rfl hco rfl (.s rfl .nil) rfl fun av H' h=>?_
 obtain ⟨v,ss,rfl,hp,rfl⟩:=h;refine sQ (dAs rfl) rfl<|k0<|P1<|G3 rfl<|sQ (dMv rfl) rfl<|sQ (dMv rfl) rfl<|tj [0] hg' rfl (hso v ss hp) rfl (.s rfl (.s rfl .nil)) rfl fun av H' h=>?_
 obtain ⟨ys,hp2,hs,rfl⟩:=h;exact k0<|P1<|G3 rfl<|sQ (dMv rfl) rfl<|sQ (dAs rfl) rfl<|k0<|V1 [] hf hr (rT rfl) ⟨v,ys,rfl,hp2.trans hp,hs,rfl⟩
end
end S
namespace S
open Go.RowKit Go.Sort
theorem world_grown {W w':World}(hb:Base W w' (fun _=>False)):∃ q os',w'=grow (W.drewN q) os':=by
 obtain ⟨h1,h2,h3,h4,h5,h6⟩:=hb;refine ⟨w'.drawn-W.drawn,w'.heap.extract W.heap.size w'.heap.size,?_⟩;have hh:w'.heap=W.heap++w'.heap.extract W.heap.size w'.heap.size:=by
  apply Array.ext_getElem?;intro i;rw [Array.getElem?_append]
  split
  ·rename_i hi;exact h6 i hi id
  ·rename_i hi
   rw [Array.getElem?_extract]
   split
   ·congr 1;omega
   ·rw [Array.getElem?_eq_none (by omega)]
 cases W;cases w';simp only at h1 h2 h3 h4 hh;simp only [grow,World.drewN,World.mk.injEq];exact ⟨hh,h2,by omega,h1,h3⟩
theorem allP_of_lits {Z:Nat→Prop}{w:World}:∀ us:List Value,AllP Z w (us.map AV.lit) us
 | []=>.nil
 | _::us=>.cons rfl (allP_of_lits us)
section
variable {P:Program}{κ:Type}[Inhabited κ]{c:Co κ}{lits:κ→List Value}
theorem lits_len (hl:∀ x,c.e x=(lits x).map AV.lit)(x:κ):(lits x).length=c.sz:=by
 have:=c.len x;rw [hl,List.length_map] at this;exact this
theorem cmpLays_of (hl:∀ x,c.e x=(lits x).map AV.lit){cf:κ→κ→Int}{gc:Nat}(hcmp:∀ x y,Pure P gc [.agg (c.e x),.agg (c.e y)] (some (cf x y)) fun r=>Ai .i64 r)(blk off size:Nat)(w:World) :
  CmpLays P gc #[] lits c.sz cf blk off size w:=by
 intro m os dk hs x y;have hx:∀ z:κ,(AV.agg (c.e z)).p (fun _=>False) (sortWorldK lits c.sz w blk off m dk os) (.agg (lits z).toArray):=fun z=>⟨lits z,rfl,by rw [hl];exact allP_of_lits _⟩
 have:=hcmp x y _ rfl (sortWorldK lits c.sz w blk off m dk os) (fun _=>False) (fun _=>False) [.agg (lits x).toArray,.agg (lits y).toArray] (.cons (hx x) (.cons (hx y) .nil)) ⟨Base.refl _ _,fun _ h=>h,fun _ h=>h.elim,fun _ h=>h.elim,trivial⟩;refine this.mono ?_;rintro e w' ⟨v,rfl,F,Z,av,H,⟨rfl,rfl⟩,hinv,hv⟩;have hv':v = .int .i64 (cf x y):=hv;subst hv';exact ⟨rfl,world_grown hinv.base⟩
theorem own_lits (hl:∀ x,c.e x=(lits x).map AV.lit){Z:Nat→Prop}{w:World}{xs:List κ}{cs:List Value}(hr:Rows c Z w xs cs)(j:Nat)(hj:j<xs.length*c.sz):cs[j]?=some ((flatK lits c.sz xs.toArray)[j]!):=by
 have hpos:=c.pos;have hi:j / c.sz<xs.length:=by rw [Nat.div_lt_iff_lt_mul hpos];exact hj
 have hx:xs[j / c.sz]?=some xs[j / c.sz]:=by simp [hi]
 obtain ⟨vs,h1,h2⟩:=hr _ _ hx;rw [hl] at h1;have hvs:=allP_lits h1;subst hvs;have hm:j % c.sz<(lits xs[j / c.sz]).length:=by rw [lits_len hl];exact Nat.mod_lt _ hpos
 have:=h2 (j % c.sz) ((lits xs[j / c.sz])[j % c.sz]) (by simp [hm]);rw [Nat.div_add_mod'] at this;rw [this,get_flatK _ _ _ _ (by simpa using hj)]
 congr 1
 simp [hi,hm]
theorem rows_flat (hl:∀ x,c.e x=(lits x).map AV.lit)(Z:Nat→Prop)(w:World)(ys:List κ):Rows c Z w ys (flatK lits c.sz ys.toArray).toList:=by
 intro i x hx;have hi:i<ys.length:=(List.getElem?_eq_some_iff.1 hx).1;refine ⟨lits x,by rw [hl];exact allP_of_lits _,fun q u hq=>?_⟩;have hql:q<c.sz:=by rw [← lits_len hl x];exact (List.getElem?_eq_some_iff.1 hq).1
 have hj:i*c.sz+q<ys.length*c.sz:=by
  have:=Nat.mul_le_mul_right c.sz (show i+1≤ys.length from hi);rw [Nat.add_mul] at this;omega
 have h1:(i*c.sz+q) / c.sz=i:=by rw [Nat.mul_comm,Nat.mul_add_div c.pos,Nat.div_eq_of_lt hql,Nat.add_zero]
 have h2:(i*c.sz+q) % c.sz=q:=by rw [Nat.mul_comm,Nat.mul_add_mod,Nat.mod_eq_of_lt hql]
 have:=get_flatK lits c.sz ys.toArray (i*c.sz+q) (by simpa using hj);rw [h1,h2] at this;have hsz:i*c.sz+q<(flatK lits c.sz ys.toArray).toList.length:=by simpa using hj
 rw [List.getElem?_eq_getElem hsz];rw [getElem!_pos _ _ (by simpa using hj)] at this;simp only [Array.getElem_toList,this];obtain ⟨hq1,hq2⟩:=List.getElem?_eq_some_iff.1 hq;have hxi:ys[i]=x:=(List.getElem?_eq_some_iff.1 hx).2;simp [hi,hxi,hq1,hq2]
end
end S
namespace S
open Go.RowKit Go.Sort
def SortedBy {κ:Type}[Inhabited κ](cf:κ→κ→Int)(ys:List κ):Prop:=SortedIn (ltOf cf) 0 ys.length ys.toArray
set_option maxHeartbeats 1000000 in
theorem sortFn {P:Program}{ρ:Go.Shelf.Ren}(L:SlLaysF0.n6 P ρ){κ:Type}[Inhabited κ]{c:Co κ}{lits:κ→List Value}(hl:∀ x,c.e x=(lits x).map AV.lit)(h1:∀ x,∀ v ∈ lits x,v.oneCell'=true)
  (gE:IsAgg P (ρ.t 24) true) (zE:SizeIs P (ρ.t 24) c.sz) {cf:κ→κ→Int} (hO:SWO (ltOf cf)) {gc:Nat} (hgc:Ent P gc) (hcmp:∀ x y,Pure P gc [.agg (c.e x),.agg (c.e y)] (some (cf x y)) fun r=>Ai .i64 r) {v:Value} {xs:List κ} (hlen:xs.length<4611686018427387904) :
  Spec P (ρ.f 6) [.sv v,.lit (.func (.func gc) #[] #[])] [.own (ρ.t 24) c v xs] fun a H=>∃ ys,ys.Perm xs∧SortedBy cf ys∧H=[.own (ρ.t 24) c v ys]:=by
 intro w F Z vs hvs hi
 cases hvs with
 | @cons _ u _ vs' hu hvs' =>
 cases hvs' with
 | @cons _ fv _ vs'' hfv hvs'' =>
 cases hvs'';obtain ⟨rfl,_⟩:=hu;have hfv':fv = .func (.func gc) #[] #[]:=hfv;subst hfv';obtain ⟨F1,hown,hF1⟩:=hi.res.at (j:=0) rfl;obtain ⟨A,m,hv⟩:=own_sv hown
 by_cases hx:xs=[]
 ·subst hx;rw [hv];refine (AnyF.slices_SortFunc_none L A m (.func (.func gc) #[] #[]) w).mono ?_;rintro e w' ⟨rfl,rfl⟩;rw [← hv];exact ⟨_,rfl,F,Z,.any,_,⟨[],List.Perm.refl _,fun i j _ _ h=>by simp at h,rfl⟩,hi,trivial⟩
 have hx0:xs.length≠0:=fun h=>hx (List.length_eq_zero_iff.1 h)
 obtain ⟨cs,⟨hcl,hor⟩,hb,hrows⟩|⟨rfl,_⟩:=hown
 case inr=>exact absurd rfl hx
 rcases hor with ⟨_,hn0⟩|⟨g,cap,cur,hvg,hg,⟨fz,hh,hfz⟩,hcap,hmx,hcs,htk⟩
 ·exact absurd hn0 hx0
 have hgl:g<w.heap.size:=(Array.getElem?_eq_some_iff.1 hh).1;have hnk:xs.length*c.sz≤cap*c.sz:=Nat.mul_le_mul_right _ hcap;have hcell:∀ j,j<xs.length*c.sz→cur[j]?=some ((flatK lits c.sz xs.toArray)[j]!):=fun j hj=>by
  have:=own_lits hl hrows j hj;rw [← htk,List.getElem?_take,if_pos hj] at this;simpa using this
 have hH:HoldsK lits c.sz w g 0 xs.toArray:=by
  intro j hj;rw [size_flatK] at hj;have hj':j<xs.length*c.sz:=by simpa using hj
  refine ⟨?_,?_⟩
  ·simp only [World.cell?,hh,Nat.zero_add];simpa using hcell j hj'
  ·simp only [World.frozen?,hh,Nat.zero_add];rcases hfz with rfl|hfz
   ·simp
   ·have:¬ fz.1≤j:=by omega
    simp [this]
 have hcall:=AnyQ.slices_SortFunc L c.sz gE zE lits (lits_len hl) h1 cf hO gc #[] g 0 cap xs.toArray w hgc (cmpLays_of hl hcmp g 0 xs.toArray.size w) hH hgl (by simpa using hlen);rw [show (xs.toArray.size)=xs.length from by simp,← hvg] at hcall;refine hcall.mono ?_;rintro e w' ⟨rfl,d',n,os,hperm,hsort,rfl⟩;have hds:d'.size=xs.length:=by simpa using hperm.1
 have hpl:d'.toList.Perm xs:=by
  have:=(show (d'.extract 0 xs.length).toList.Perm (xs.toArray.extract 0 xs.length).toList from by simpa [hds] using hperm.2.2)
  rw [show d'.extract 0 xs.length=d' from by rw [← hds];exact Array.extract_size,show xs.toArray.extract 0 xs.length=xs.toArray from by rw [show xs.length=xs.toArray.size from by simp];exact Array.extract_size] at this;simpa using this
 obtain ⟨F',hi',hk⟩:=hi.turn (w':=sortWorldK lits c.sz w g 0 n d' os) (r':=.own (ρ.t 24) c u d'.toList) (j:=0) rfl fun F1 hown1 hz1=>by
  have hg1:F1 g:=by
   obtain ⟨_,_,hb1,_⟩|⟨rfl,_⟩:=hown1
   ·exact hb1 g (by rw [hvg];rfl)
   ·exact absurd rfl hx
  refine ⟨F1,⟨rfl,rfl,rfl,Nat.le_add_right _ _,by simp [sortWorldK,grow,putRowK,putRow,mapBlock,ahead],fun b hbl hnb=>?_⟩,.inl ⟨(flatK lits c.sz d').toList,⟨by simp [hds],.inr ⟨g,cap,putCells id 0 (flatK lits c.sz d') cur,by simpa [hds] using hvg,Nat.zero_le _,⟨fz,?_,by simpa [putCells] using hfz⟩,by simpa [hds] using hcap,hmx,by simpa [putCells] using hcs,?_⟩⟩,fun b hb'=>?_,?_⟩,fun _ h=>.inl h⟩
  ·have hne:g≠b:=fun e=>hnb (e ▸ hg1)
   simp only [sortWorldK,grow,putRowK,putRow,mapBlock,ahead];rw [Array.getElem?_append_left (by simpa using hbl),Array.getElem?_modify,if_neg hne];rfl
  ·simp only [sortWorldK,grow,putRowK,putRow,mapBlock,ahead];rw [Array.getElem?_append_left (by simpa using hgl),Array.getElem?_modify,if_pos rfl,show (Sort.ahead w n).heap=w.heap from rfl,hh];rfl
  ·apply List.ext_getElem?;intro j;have hsz:(flatK lits c.sz d').size=xs.length*c.sz:=by simp [hds]
   rw [List.getElem?_take];simp only [Array.length_toList,hds]
   split
   ·rename_i hj
    simp only [Array.getElem?_toList,putCells,Array.getElem?_mapIdx,Nat.zero_add,Nat.zero_le,true_and,Nat.sub_zero,hsz,hj,if_true,hcell j hj,Option.map_some,id];rw [Array.getElem?_eq_getElem (by omega),getElem!_pos _ _ (by omega)]
   ·rename_i hj
    rw [List.getElem?_eq_none (by simp [hds];omega)]
  ·have:b=g:=by rw [hvg] at hb';simpa [Value.ownBlock] using hb'.symm
   subst this;exact hg1
  ·have:=rows_flat hl Z (sortWorldK lits c.sz w g 0 n d' os) d'.toList;simpa using this
 exact ⟨_,rfl,F',Z,.any,_,⟨d'.toList,hpl,by unfold SortedBy;simpa [hds] using hsort,rfl⟩,hi',trivial⟩
end S
namespace S
open Go.RowKit Go.Sort
section
variable {κ:Type}[Inhabited κ]{cf:κ→κ→Int}
def sortL (cf:κ→κ→Int)(ks:List κ):List κ:=ks.mergeSort fun x y=>!(ltOf cf y x)
theorem sortedBy_pairwise {ys:List κ}(h:SortedBy cf ys):ys.Pairwise fun x y=>(!(ltOf cf y x))=true:=by
 rw [List.pairwise_iff_getElem];intro i j hi hj hij;have:=h i j (Nat.zero_le _) hij hj;simpa [hi,hj] using this
theorem perm_unique {r:κ→κ→Prop}(ha:∀ x y,r x y→r y x→x=y):∀ {ys zs:List κ},ys.Perm zs→ys.Pairwise r→zs.Pairwise r→ys=zs
 | [],zs,hp,_,_=>by rw [List.nil_perm.1 hp]
 | y::ys,[],hp,_,_=>by have:=hp.length_eq;simp at this
 | y::ys,z::zs,hp,h1,h2=>by
  obtain ⟨h1a,h1b⟩:=List.pairwise_cons.1 h1;obtain ⟨h2a,h2b⟩:=List.pairwise_cons.1 h2;have hyz:y=z:=by
   have hy:y ∈ z::zs:=hp.subset (.head _);have hz:z ∈ y::ys:=hp.symm.subset (.head _);rcases List.mem_cons.1 hy with e|hy
   ·exact e
   rcases List.mem_cons.1 hz with e|hz
   ·exact e.symm
   exact ha _ _ (h1a z hz) (h2a y hy)
  subst hyz;rw [perm_unique ha (List.Perm.cons_inv hp) h1b h2b]
theorem sortL_is (hO:SWO (ltOf cf))(ha:∀ x y,ltOf cf x y=false→ltOf cf y x=false→x=y){ys ks:List κ}(hp:ys.Perm ks)(hs:SortedBy cf ys):ys=sortL cf ks:=by
 refine perm_unique (r:=fun x y=>(!(ltOf cf y x))=true) (fun x y h1 h2=>ha x y (by simpa using h2) (by simpa using h1)) (hp.trans (List.mergeSort_perm _ _).symm) (sortedBy_pairwise hs) ?_;refine List.pairwise_mergeSort (fun a b c h1 h2=>?_) (fun a b=>?_) _
 ·have:=hO.ntrans c b a (by simpa using h2) (by simpa using h1);simpa using this
 ·by_cases h:ltOf cf b a=true
  ·have:ltOf cf a b=false:=by
    cases hab:ltOf cf a b with
    | false=>rfl
    | true=>have:=hO.trans _ _ _ h hab;rw [hO.irrefl] at this;cases this
   simp [this]
  ·simp [h]
end
end S
end Go.Proofs.YtcoineklodmbnaaGreat

