import Derived.Laws.StructEq
import Derived.Test.YtcoineklodmbnaaGreatRows
import Derived.WalkKit
import Derived.ProofKit
import Derived.OpenShut
import Derived.ShutString
import Derived.ChangeOld
import Derived.Below
import Derived.SizedLaws
import Derived.ReadAgain
import Derived.Deep.Slices
import Derived.Laws.ComplexArith
import Derived.Lib.AppendStr
import Derived.Laws.IdiomStrings
import Derived.Laws.BytesArg
import Derived.MapKept
import Derived.DeepKeys4
import Derived.StringKeys
import Derived.Test.YtcoineklodmbnaaGreatW1
set_option linter.unusedVariables false
set_option linter.unusedSimpArgs false
set_option linter.unusedSectionVars false
namespace Go.Proofs.YtcoineklodmbnaaGreat
namespace S
open Go.RowKit
def cI (k:IntKind):Co Int:=⟨fun x=>[Ai k x],1,by decide,fun _=>rfl,fun _=>⟨oLit rfl,trivial⟩⟩
def cB:Co Bool:=⟨fun x=>[Ab x],1,by decide,fun _=>rfl,fun _=>⟨oLit rfl,trivial⟩⟩
def cS:Co ByteArray:=⟨fun x=>[.lit (.string x)],1,by decide,fun _=>rfl,fun _=>⟨oLit rfl,trivial⟩⟩
def cL {T:Type}(c:Co T):Co (List T):=⟨fun x=>[.fsl c x],1,by decide,fun _=>rfl,fun _=>⟨oFsl,trivial⟩⟩
theorem oSv {v:Value}:(AV.sv v).One:=fun _ _ _ ⟨e,_,_,_,h⟩=>by rw [e,h];rfl
section
variable {P:Program}{f:FuncId}{n:Nat}{ops:Array Oper}{l:List Oper}{k:List Item}{fr:Fr}{H:List Res}{ρ R:Type}{x:Option ρ}{X:ρ→Option R}{K:R→AV→List Res→Prop}{ty t t' e:TypeId}{d:Nat}{pos:String}{aft:Array Edge}
theorem spec_of' {fn:Func}{c:Code}{avs:List AV}{y:Option R}{en:R→AV}{m:Nat}(hf:P.funcs[f]?=some fn)(hb:fn.body=some c)(hm:fn.ntmps=m)(hn:avs.length≤m)
  (h:Sim P f m [.code c] (frOf 0 avs) [] y some fun r a H=>a=en r∧H=[]):Pure P f avs y en:=by
 subst hm;exact spec_of hf hb hn h
def Fresh1 (P:Program)(g:FuncId)(avs:List AV){Q:Type}(y:Option Q)(A:Q→Value→AV)(B:Q→Value→List Res):Prop:=∀ r,y=some r→Spec P g avs [] fun a H=>∃ v,a=A r v∧H=B r v
theorem fresh_of {fn:Func}{c:Code}{avs:List AV}{y:Option R}{A:R→Value→AV}{B:R→Value→List Res}{m:Nat}(hf:P.funcs[f]?=some fn)(hb:fn.body=some c)(hm:fn.ntmps=m)(hn:avs.length≤m)
  (h:Sim P f m [.code c] (frOf 0 avs) [] y some fun r a H=>∃ v,a=A r v∧H=B r v):Fresh1 P f avs y A B:=by
 subst hm;exact spec_of hf hb hn h
theorem ff {g:FuncId}{args:Array Operand}{ts:Array TypeId}{avs:List AV}{Q:Type}{y:Option Q}{A:Q→Value→AV}{B:Q→Value→List Res}{r:Q}(hg:Ent P g)(hp:Fresh1 P g avs y A B)(hy:y=some r)(ha:ArgsS fr args.toList avs)(hdn:Nat.blt d n=true)
  (h:∀ v,SimL P f n ops l k ((d,A r v)::fr) (B r v++H) x X K):SimL P f n ops (⟨some d,.call ⟨.value (.func g),args,ts⟩,ty,pos,aft,none⟩::l) k fr H x X K :=
 Ll (A:=fun q vs=>A q (vs.headD undef)) (B:=fun q vs=>B q (vs.headD undef)) hg (fun r hr=>by
  intro w F Z vs h1 h2;refine (hp r hr w F Z vs h1 h2).mono fun e w' ⟨v,he,F',Z',a,H',⟨u,ha,hH⟩,rest⟩=>⟨v,he,F',Z',a,H',⟨[u],ha,hH⟩,rest⟩) hy ha hdn fun vs=>h _
theorem pure_of_fresh {T Q:Type}{g:FuncId}{avs:List AV}{y:Option Q}{A:Q→Value→AV}{B:Q→Value→List Res}{en:Q→AV}{t:TypeId}{c:Co T}(xs:Q→List T)(h:Fresh1 P g avs y A B)(hB:∀ r v,B r v=[.own t c v (xs r)])(hA:∀ r v Z w u,(A r v).p Z w u→(AV.fsl c (xs r)).p Z w v→(en r).p Z w u):Pure P g avs y en:=by
 intro r hr w F Z vs h1 h2;refine (h r hr w F Z vs h1 h2).mono fun e w' ⟨v,he,F',Z',a,H',⟨u,ha,hH⟩,hinv,hp⟩=>?_
 subst ha hH;rw [hB] at hinv;obtain ⟨G1,h3,hG,hset⟩:=HAll.give (r':=.fz c u (xs r)) (j:=0) rfl hinv.res;have hzz:∀ b,Z' b→Z' b∨G1 b:=fun _ x=>.inl x
 refine ⟨v,he,fun _=>False,fun b=>Z' b∨G1 b,_,[],⟨rfl,rfl⟩,?_,hA r u _ _ v (AV.st _ hzz (Keep.refl _ _) hp) (own_fsl h3)⟩;exact hinv.step (F1:=fun _=>False) (Step.refl _ _) (fun _ x=>x.elim) hzz (fun b x=>x.imp id fun y=>.inl (hG b y)) (fun b x=>x.elim) trivial
inductive Elems (fr:Fr){T:Type}(c:Co T):List (Nat×Operand)→List T→Prop
 | nil:Elems fr c [] []
 | c {i:Nat} {u:Operand} {a:AV} {y:T} {ps:List (Nat×Operand)} {ys:List T}:arg fr u=some a→CellsOf a (c.e y)→Elems fr c ps ys→Elems fr c ((i,u)::ps) (y::ys)
theorem elems_rows {T:Type}{c:Co T}{ps:List (Nat×Operand)}{ys:List T}(h:Elems fr c ps ys){Z:Nat→Prop}{w:World}{ρ:Operand→Value}(hf:∀ {u:Operand} {a:AV},u ∈ ps.map (·.2)→arg fr u=some a→a.p Z w (ρ u)):Rows c Z w ys ((ps.map fun p=>(ρ p.2).cells.toList).flatten)∧((ps.map fun p=>(ρ p.2).cells.toList).flatten).length=ys.length*c.sz∧∀ p ∈ ps,(ρ p.2).cells.size=c.sz:=by
 induction h with
 | nil=>exact ⟨by intro i x hx;simp at hx,by simp,by simp⟩
 | @c i u a y ps ys hu hc _ ih =>
  obtain ⟨h1,h2,h3⟩:=ih fun hm hx=>hf (by simp at hm ⊢;exact .inr hm) hx
  have hcs:=hc _ _ _ (hf (by simp) hu);have hl:(ρ u).cells.toList.length=c.sz:=by rw [← hcs.length,c.len]
  refine ⟨fun q z hz=>?_,by simp only [List.map_cons,List.flatten_cons,List.length_append,hl,h2,List.length_cons,Nat.succ_mul];omega,fun p hp=>?_⟩
  ·cases q with
   | zero =>
    simp at hz;subst hz;refine ⟨_,hcs,fun q u hq=>?_⟩;simp only [List.map_cons,List.flatten_cons,Nat.zero_mul,Nat.zero_add];rw [List.getElem?_append_left]
    ·exact hq
    ·rcases Nat.lt_or_ge q (ρ _).cells.toList.length with h|h
     ·exact h
     ·rw [List.getElem?_eq_none_iff.2 h] at hq;cases hq
   | succ q =>
    obtain ⟨vs,g1,g2⟩:=h1 q z (by simpa using hz);refine ⟨vs,g1,fun r u hr=>?_⟩;simp only [List.map_cons,List.flatten_cons];rw [List.getElem?_append_right (by rw [hl,Nat.succ_mul];omega),hl,← g2 r u hr]
    congr 1;rw [Nat.succ_mul];omega
  ·rcases List.mem_cons.1 hp with rfl|hp
   ·simpa using hl
   ·exact h3 p hp
theorem fill_rows (sz:Nat):∀ (ps:List (Nat×Value)) (i:Nat) (pre:List Value) (post:List Value),ps.map (·.1)=List.range' i ps.length→pre.length=i*sz→post.length=ps.length*sz→(∀ p ∈ ps,p.2.cells.size=sz) →
  Instr.fill (fun q=>some (q*sz,sz)) (pre++post).toArray ps=some (pre++(ps.map fun p=>p.2.cells.toList).flatten).toArray:=by
 intro ps
 induction ps with
 | nil=>intro i pre post h1 h2 h3 h4;simp at h3;subst h3;simp [Instr.fill]
 | cons p ps ih =>
  intro i pre post h1 h2 h3 h4;obtain ⟨q,v⟩:=p;simp only [List.map_cons,List.length_cons,List.range'_succ,List.cons.injEq] at h1;obtain ⟨rfl,h1⟩:=h1;have hv:v.cells.size=sz:=h4 (q,v) (by simp);have hvl:v.cells.toList.length=sz:=by simpa using hv
  simp only [List.length_cons,Nat.succ_mul] at h3;have hfd:=foldl_splice (pre++post) v.cells.toList (q*sz) (by rw [List.length_append];omega);simp only [Array.toArray_toList] at hfd;have e1:(pre++post).take (q*sz)=pre:=by rw [← h2];simp
  have e2:(pre++post).drop (q*sz+v.cells.toList.length)=post.drop sz:=by
   rw [hvl,← h2,List.drop_append];simp
  rw [e1,e2] at hfd;have hge:¬ (q*sz+sz > (pre++post).length):=by rw [List.length_append];omega
  simp only [Instr.fill,hv,ne_eq,not_true_eq_false,List.size_toArray,hge,or_self,if_false];refine (congrArg (fun z=>Instr.fill _ z ps) hfd).trans ?_;rw [ih (q+1) (pre++v.cells.toList) (post.drop sz) h1 (by rw [List.length_append,hvl,h2,Nat.succ_mul]) (by rw [List.length_drop];omega) (fun p hp=>h4 p (by simp [hp]))];simp
theorem bs_run {T:Type}{c:Co T}{ps:Array (Nat×Operand)}{xs:List T}{z:Value}{m bytes:Nat}(ht:P.underlying t=some (.slice e))(hs:SizeIs P e c.sz)(hinfo:Info P e z c.sz bytes)(hp:Elems fr c ps.toList xs)(hi:(ps.toList.map (·.1) == List.range' 0 m && Nat.ble (m*c.sz) 16777216)=true)
  {o:Oper} (ho:o.op = .buildSlice t m ps) {w:World} {Z:Nat→Prop} {ρ:Operand→Value} (hf:Rho (.buildSlice t m ps) fr Z w ρ):∃ cs:List Value,(execOp ρ o).run P w = .ok (.value (.slice (some ⟨w.heap.size,0,none⟩) m m)) (w.alloc (.cells cs.toArray e))∧xs.length=m∧cs.length=m*c.sz∧m≤maxLen∧Rows c Z w xs cs:=by
 rw [Bool.and_eq_true,beq_iff_eq,Nat.ble_eq] at hi;obtain ⟨hix,hmx⟩:=hi;obtain ⟨g1,g2,g3⟩:=elems_rows hp (ρ:=ρ) (Z:=Z) (w:=w) fun {u a} hm hx=>hf (by simp [Op.operands];simpa using hm) hx
 have hlen:ps.toList.length=m:=by have:=congrArg List.length hix;simpa using this
 have hxl:xs.length=m:=by
  have:∀ {ps:List (Nat×Operand)} {xs:List T},Elems fr c ps xs→xs.length=ps.length:=by
   intro ps xs h
   induction h with
   | nil=>rfl
   | c _ _ _ ih=>simp [ih]
  rw [this hp,hlen]
 obtain ⟨i,i1,i2,i3,i4⟩:=hinfo.parts;have hm2:¬ (m*c.sz > 2 ^ 24):=by simp only [Nat.reducePow];omega
 generalize hcs:(ps.toList.map fun p=>(ρ p.2).cells.toList).flatten=cs at g1 g2;have hfill:∀ z0:Array Value,Instr.fill (fun q=>some (q*c.sz,c.sz)) ((Array.range (m*c.sz)).map (z0[· % z0.size]!)) ((ps.map fun p=>(p.1,ρ p.2)).toList)=some cs.toArray:=by
  intro z0;have:=fill_rows c.sz (ps.toList.map fun p=>(p.1,ρ p.2)) 0 [] ((Array.range (m*c.sz)).map (z0[· % z0.size]!)).toList (by simpa [hlen,Function.comp_def] using hix) (by simp) (by simp [hlen]) (fun p hp=>by
   simp only [List.mem_map] at hp;obtain ⟨q,hq,rfl⟩:=hp;exact g3 q hq)
  simp only [List.nil_append,Array.toArray_toList,List.map_map,Function.comp_def,hcs] at this;simpa using this
 refine ⟨cs,?_,hxl,by rw [g2,hxl],?_,g1⟩
 ·have hf1:∀ z0:Array Value,Instr.fill (fun q=>some (q*c.sz,c.sz)) ((Array.range (m*c.sz)).map (fun x=>z0[x % z0.size]!)) (Array.map (fun x=>(x.fst,ρ x.snd)) ps).toList=some cs.toArray:=hfill;have h00:¬ (0 > 2 ^ 24):=by decide
  by_cases hz:m*c.sz=0
  ·have:=hf1 #[];rw [hz] at this;simp only [execOp,ho,Instr.buildSlice,Sem.run_bind,run_underlying ht,Result.andThen_ok,hs w,hz,h00,Sem.run_pure,if_true,if_false,this,newRow,newObj,Sem.run];rfl
  ·simp only [execOp,ho,Instr.buildSlice,Sem.run_bind,run_underlying ht,Result.andThen_ok,hs w,hm2,hz,Sem.run_pure,if_false,zeroValue,typeInfo,i1,i2,program,Sem.run,hf1,newRow,newObj];rfl
 ·have:m*1≤m*c.sz:=Nat.mul_le_mul_left _ c.pos;rw [mx];omega
theorem sBS {T:Type}{c:Co T}{ps:Array (Nat×Operand)}{xs:List T}{z:Value}{m bytes:Nat}(ht:P.underlying t=some (.slice e))(hs:SizeIs P e c.sz)(hinfo:Info P e z c.sz bytes)(hp:Elems fr c ps.toList xs)(hi:(ps.toList.map (·.1) == List.range' 0 m && Nat.ble (m*c.sz) 16777216)=true)(hdn:Nat.blt d n=true)
  (h:∀ v,SimL P f n ops l k ((d,.sv v)::fr) (.own e c v xs::H) x X K):SimL P f n ops (⟨some d,.buildSlice t m ps,ty,pos,aft,none⟩::l) k fr H x X K:=by
 refine ph (I:=Value) (fun o ho hty w0 F0 Z0 w F Z ρ hinv hf=>?_) hdn h;obtain ⟨cs,hr,hxl,hcl,hmm,g1⟩:=bs_run ht hs hinfo hp hi ho hf;refine ⟨.slice (some ⟨w.heap.size,0,none⟩) m m,w.alloc (.cells cs.toArray e),.slice (some ⟨w.heap.size,0,none⟩) m m,_,Z,hr,hinv.push _ (.own e c (.slice (some ⟨w.heap.size,0,none⟩) m m) xs) ?_,fun _ x=>x,(Step.alloc w _ _).keep' hinv,rfl,_,_,_,rfl⟩;refine .inl ⟨cs,⟨by rw [hxl,hcl],.inr ⟨w.heap.size,m,cs.toArray,by rw [hxl],Nat.zero_le _,.new (heap_alloc_new w _),by rw [hxl];exact Nat.le_refl _,hmm,by simp [hcl],?_⟩⟩,fun b hb=>?_,?_⟩
 ·rw [hxl];exact List.take_of_length_le (by simp [hcl])
 ·simp [Value.ownBlock] at hb;exact hb.symm
 ·exact g1.st (fun _ x=>x) ((Step.alloc w _ _).keep' hinv)
theorem dBS {T:Type}{c:Co T}{ps:Array (Nat×Operand)}{xs:List T}{z:Value}{m bytes:Nat}(ht:P.underlying t=some (.slice e))(hs:SizeIs P e c.sz)(hinfo:Info P e z c.sz bytes)(hp:Elems fr c ps.toList xs)(hi:(ps.toList.map (·.1) == List.range' 0 m && Nat.ble (m*c.sz) 16777216)=true):D P n H (.buildSlice t m ps) ty fr (.fsl c xs):=by
 intro o ho hty w0 F0 Z0 w F Z tmps hn hinv hf;obtain ⟨cs,hr,hxl,hcl,hmm,g1⟩:=bs_run ht hs hinfo hp hi ho (ρ:=(⟨tmps,[]⟩:Act).eval) (Z:=Z) fun hm hx=>arg_ok hf hx hm
 have s:=Step.alloc w (.cells cs.toArray e) (fun _=>False);refine .inl ⟨_,_,hr,fun b=>Z b∨b=w.heap.size,fun _ x=>.inl x,fun b x=>x.imp id fun e=>by subst e;exact ⟨Nat.le_refl _,by simp⟩,s,?_⟩;have hown:(Res.own e c (.slice (some ⟨w.heap.size,0,none⟩) m m) xs).h Z (w.alloc (.cells cs.toArray e)) (fun b=>b=w.heap.size):=by
  refine .inl ⟨cs,⟨by rw [hxl,hcl],.inr ⟨w.heap.size,m,cs.toArray,by rw [hxl],Nat.zero_le _,.new (heap_alloc_new w _),by rw [hxl];exact Nat.le_refl _,hmm,by simp [hcl],?_⟩⟩,fun b hb=>?_,?_⟩
  ·rw [hxl];exact List.take_of_length_le (by simp [hcl])
  ·simp [Value.ownBlock] at hb;exact hb.symm
  ·exact g1.st (fun _ x=>x) (s.keep' hinv)
 exact own_fsl hown
variable {y z:Operand}{s u:ByteArray}
theorem bytes_beq (s u:ByteArray):(s == u)=decide (s=u):=by
 cases s with
 | mk a=>cases u with
  | mk b =>
   show (a == b)=_;rw [Bool.eq_iff_iff];simp
theorem bytes_beq' (s u:ByteArray):(s.toList == u.toList)=decide (s=u):=by rw [← beq_toListBytes,bytes_beq]
theorem Gk (hy:arg fr y=some (.lit (.string s)))(hz:arg fr z=some (.lit (.string u))):D P n H (.binOp .eql t y z t') ty fr (Ab (decide (s=u))) :=
 .of fun o ho hty w Z F ρ _ hf=>by
  have e1:ρ y=_:=hf (by simp [Op.operands]) hy;have e2:ρ z=_:=hf (by simp [Op.operands]) hz;exact ⟨.bool (decide (s=u)),by simp [execOp,ho,e1,e2,eqGuard_at_string,binOp,Op.stringOp,Sem.run_bind,bytes_beq'],rfl⟩
theorem dCat (hb:(s.size:Int)+(u.size:Int)≤140737488355328)(hy:arg fr y=some (.lit (.string s)))(hz:arg fr z=some (.lit (.string u))):D P n H (.binOp .add t y z t') ty fr (.lit (.string (s++u))) :=
 .of fun o ho hty w Z F ρ _ hf=>by
  have e1:ρ y=_:=hf (by simp [Op.operands]) hy;have e2:ρ z=_:=hf (by simp [Op.operands]) hz;have hn:¬ (9223372036854775807<(s.size:Int)+(u.size:Int)):=by omega
  exact ⟨.string (s++u),by simp [execOp,ho,e1,e2,eqGuard_at_string,binOp,Op.stringOp,Sem.run_bind,hn],rfl⟩
end
end S
namespace S
open Go.RowKit Go.ChangeShapes Go.WideShapes
section
variable {H:Type}{enc:TypeId×Value→H}{P:Program}{W:World}
def Zof (W:World)(b:Nat):Prop:=b<W.heap.size
def Fits {H:Type}(P:Program)(t:TypeId)(d:DataW H):Prop:=(d.weights P t).all (·≤reachBytes)=true
def Opn {T:Type}(enc:TypeId×Value→H)(P:Program)(W:World)(t:TypeId)(c:Co T)(wf:T→Prop):Prop :=
 ∀ (n:Nat) (cs:List Value) (x:DataW H×List MemPlace),DataW.trod enc P W 0 (fun _=>true) true n t cs=some x→Fits P t x.1→∃ v,AllP (Zof W) W (c.e v) cs∧wf v
def wfI (k:IntKind)(n:Int):Prop:=(Lit.int k n).wf=true
def wfB (_:Bool):Prop:=True
def wfS (s:ByteArray):Prop:=s.size≤reachBytes
def wfL {T:Type}(wf:T→Prop)(bytes:Nat)(xs:List T):Prop:=xs.length*bytes≤reachBytes∧∀ x ∈ xs,wf x
theorem opI {t:TypeId}{k:IntKind}(ht:P.underlying t=some (.int k)):Opn enc P W t (cI k) (wfI k):=fun n cs x h _=>by
 obtain ⟨m,rfl,_,hw⟩:=DataW.trod_int ht h;exact ⟨m,.cons rfl .nil,hw⟩
theorem opB {t:TypeId}(ht:P.underlying t=some .bool):Opn enc P W t cB wfB:=fun n cs x h _=>by
 cases n with
 | zero=>simp [DataW.trod] at h
 | succ n =>
  unfold DataW.trod at h;rw [ht] at h
  split at h <;> first | (rename_i b _;exact ⟨b,.cons rfl .nil,trivial⟩) | simp_all
theorem opS {t:TypeId}(ht:P.underlying t=some .string):Opn enc P W t cS wfS:=fun n cs x h hw=>by
 cases n with
 | zero=>simp [DataW.trod] at h
 | succ n =>
  unfold DataW.trod at h;rw [ht] at h
  split at h <;> first | (rename_i s _;split at h;simp only [Option.some.injEq] at h;subst h;exact ⟨s,.cons rfl .nil,by simpa [Fits,DataW.weights,wfS] using hw⟩;cases h) | simp_all
theorem cell_lt {w:World}{a:Addr}{u:Value}(h:w.cell? a=some u):a.block<w.heap.size:=by
 rcases Nat.lt_or_ge a.block w.heap.size with hl|hl
 ·exact hl
 ·exfalso;unfold World.cell? at h;rw [Array.getElem?_eq_none hl] at h;simp at h
theorem list_of {T:Type}{p:Nat→T→Prop}:∀ len,(∀ i,i<len→∃ v,p i v)→∃ xs:List T,xs.length=len∧∀ i x,xs[i]?=some x→p i x:=by
 intro len
 induction len with
 | zero=>intro _;exact ⟨[],rfl,by simp⟩
 | succ len ih =>
  intro hel;obtain ⟨xs,h1,h2⟩:=ih fun i hi=>hel i (by omega)
  obtain ⟨v,hv⟩:=hel len (by omega);refine ⟨xs++[v],by simp [h1],fun i x hx=>?_⟩;rw [List.getElem?_append] at hx
  split at hx
  ·exact h2 i x hx
  ·have:i=len:=by
    rcases Nat.eq_zero_or_pos (i-xs.length) with h|h
    ·omega
    ·rw [List.getElem?_eq_none (by simp;omega)] at hx;cases hx
   subst this;simp [h1] at hx;subst hx;exact hv
theorem weightsAll_mem {e:TypeId}{ds:List (DataW H)}(h:∀ q ∈ DataW.weightsAll P e ds,q≤reachBytes):∀ d ∈ ds,Fits P e d:=by
 induction ds with
 | nil=>simp
 | cons d ds ih =>
  intro y hy;simp only [DataW.weightsAll,List.mem_append] at h;rcases List.mem_cons.1 hy with rfl|hy
  ·simp only [Fits,List.all_eq_true,decide_eq_true_eq];exact fun q hq=>h q (.inl hq)
  ·exact ih (fun q hq=>h q (.inr hq)) y hy
theorem weightsEach_get {ts:List TypeId}{ds:List (DataW H)}(h:∀ q ∈ DataW.weightsEach P ts ds,q≤reachBytes):∀ (i:Nat) (t:TypeId) (d:DataW H),ts[i]?=some t→ds[i]?=some d→Fits P t d:=by
 induction ts generalizing ds with
 | nil=>intro i t d ht;simp at ht
 | cons t ts ih =>
  intro i t' d' ht hd
  cases ds with
  | nil=>simp at hd
  | cons d ds =>
   simp only [DataW.weightsEach,List.mem_append] at h
   cases i with
   | zero =>
    simp at ht hd;subst ht hd;simp only [Fits,List.all_eq_true,decide_eq_true_eq];exact fun q hq=>h q (.inl hq)
   | succ i=>exact ih (fun q hq=>h q (.inr hq)) i t' d' (by simpa using ht) (by simpa using hd)
theorem opL {T:Type}{t e:TypeId}{c:Co T}{wf:T→Prop}{bytes:Nat}(ht:P.underlying t=some (.slice e))(hs:P.cellsOf e=c.sz)(hb:P.bytesOf e=bytes)(ho:Opn enc P W e c wf):Opn enc P W t (cL c) (wfL wf bytes):=fun n cs x h hw=>by
 rcases Deep.open_slice ht h with ⟨rfl,rfl⟩|⟨a,len,cap,m,k,D,Pl,rfl,_,hl,hm,hmm,rfl,hx⟩
 ·exact ⟨[],.cons ⟨none,0,rfl,Nat.le_refl _,fun i x hx=>by simp at hx⟩ .nil,by simp,by simp⟩
 ·simp only [if_true] at hmm;subst hmm;simp only [Fits,List.all_eq_true,decide_eq_true_eq,DataW.weights,ht,List.mem_cons,List.mem_append,List.length_map,List.length_range] at hw;have hfit:∀ i,i<len→Fits P e (D i):=fun i hi=>weightsAll_mem (fun q hq=>hw q (.inr (.inl hq))) _ (List.mem_map.2 ⟨i,List.mem_range.2 hi,rfl⟩)
  have hel:∀ i,i<len→∃ v,At (Zof W) W (a.add (i*c.sz)) (c.e v)∧a.block<W.heap.size∧wf v:=fun i hi=>by
   obtain ⟨cs',h1,h2⟩:=hx i (by omega);obtain ⟨v,h3,h4⟩:=ho k cs' _ h2 (hfit i hi);rw [hs] at h1;obtain ⟨_,hlen,hcell⟩:=World.cells?_some h1;have hpos:=c.pos;refine ⟨v,⟨cs',h3,fun j u hu=>?_⟩,?_,h4⟩
   ·have:j<c.sz:=by
     rcases Nat.lt_or_ge j cs'.length with h|h
     ·omega
     ·simp [h] at hu
    rw [hcell j this,hu]
   ·have:=hcell 0 hpos;rw [List.getElem?_eq_getElem (by omega)] at this;have hb:=cell_lt this
    rwa [add_block,add_block] at hb
  obtain ⟨xs,hxl,hxs⟩:=list_of len hel;subst hxl;refine ⟨xs,.cons ⟨some a,_,rfl,hl,fun i x hi=>⟨a,rfl,(hxs i x hi).2.1,(hxs i x hi).1⟩⟩ .nil,?_,fun x hx=>?_⟩
  ·have:=hw _ (.inl rfl);rw [hb] at this;exact Nat.le_trans (Nat.mul_le_mul_right _ (by omega)) this
  ·obtain ⟨i,hi⟩:=List.getElem?_of_mem hx;exact (hxs i x hi).2.2
theorem struct_parts {t:TypeId}{fs:Array Field}{n:Nat}{cs:List Value}{x:DataW H×List MemPlace}(ht:P.underlying t=some (.struct fs))(h:DataW.trod enc P W 0 (fun _=>true) true n t cs=some x)(hw:Fits P t x.1) :
  cs.length=P.cellsOf t∧∃ m,∀ (i:Nat) (f:Field),fs[i]?=some f→∃ y,DataW.trod enc P W 0 (fun _=>true) true m f.type ((cs.drop f.offset).take (P.cellsOf f.type))=some y∧Fits P f.type y.1:=by
 obtain ⟨xs,m,rfl,rfl,hl,hx,hf⟩:=DataW.trod_struct ht h;refine ⟨hl,m,fun i f hi=>?_⟩;have hi':i<xs.length:=by
  rw [hx];rcases Nat.lt_or_ge i fs.size with h|h
  ·exact h
  ·simp [h] at hi
 refine ⟨xs[i],by rw [hf i f hi];simp [hi'],?_⟩;simp only [Fits,List.all_eq_true,decide_eq_true_eq,DataW.weights,ht] at hw;exact weightsEach_get hw i f.type xs[i].1 (by simp [hi]) (by simp [hi'])
theorem struct_get {T:Type}{c:Co T}{wf:T→Prop}{fs:Array Field}{m:Nat}{cs:List Value}(hf:∀ (i:Nat) (f:Field),fs[i]?=some f→∃ y:DataW H×List MemPlace,DataW.trod enc P W 0 (fun _=>true) true m f.type ((cs.drop f.offset).take (P.cellsOf f.type))=some y∧Fits P f.type y.1)
  (i:Nat) {f:Field} {off ft s:Nat} (h1:fs[i]?=some f) (h2:f.offset=off) (h3:f.type=ft) (h4:P.cellsOf ft=s) (ho:Opn enc P W ft c wf):∃ v,AllP (Zof W) W (c.e v) ((cs.drop off).take s)∧wf v:=by
 obtain ⟨y,g1,g2⟩:=hf i f h1;rw [h2,h3,h4] at g1;rw [h3] at g2;exact ho m _ y g1 g2
theorem AllP.piece {Z:Nat→Prop}{w:World}{az bs:List AV}{cs:List Value}{off s:Nat}(h1:AllP Z w az ((cs.drop off).take s))(h2:AllP Z w bs (cs.drop (off+s))):AllP Z w (az++bs) (cs.drop off):=by
 have:cs.drop off=(cs.drop off).take s++cs.drop (off+s):=by rw [← List.drop_drop,List.take_append_drop]
 rw [this];exact h1.append h2
theorem AllP.stop {Z:Nat→Prop}{w:World}{cs:List Value}{n:Nat}(h:cs.length=n):AllP Z w [] (cs.drop n):=by
 rw [List.drop_eq_nil_of_le (by omega)];exact .nil
def ArgOk {T:Type}(enc:TypeId×Value→H)(P:Program)(W:World)(t:TypeId)(av:T→AV)(wf:T→Prop):Prop :=
 ∀ (r:Reach) (b0:Nat) (v:Value) (d:DataW H) (ps:List MemPlace),Value.okWide P W r b0 t v→DataW.Trod enc P W 0 (fun _=>true) true t v d ps→Fits P t d→∃ x,(av x).p (Zof W) W v∧wf x
theorem argI {t:TypeId}{k:IntKind}(ht:P.underlying t=some (.int k)):ArgOk enc P W t (fun n=>Ai k n) (wfI k):=fun r b0 v d ps hv hd _=>by
 obtain ⟨n,rfl,_,_,hw⟩:=open_int ht hv hd;exact ⟨n,rfl,hw⟩
theorem argL {T:Type}{t e:TypeId}{c:Co T}{wf:T→Prop}{bytes:Nat}(ht:P.underlying t=some (.slice e))(hs:P.cellsOf e=c.sz)(hb:P.bytesOf e=bytes)(ho:Opn enc P W e c wf):ArgOk enc P W t (fun xs=>.fsl c xs) (wfL wf bytes):=fun r b0 v d ps hv hd hw=>by
 obtain ⟨n,hd⟩:=hd;obtain ⟨xs,h1,h2⟩:=opL ht hs hb ho n _ _ hd hw;refine ⟨xs,?_,h2⟩;have hcell:Cell.okWide P W r b0 t v:=by simpa [Value.okWide,ht] using hv
 have hv1:v.cells=#[v]:=by
  cases v <;> first | rfl | simp [Cell.okWide,Cell.ok,ht] at hcell
 rw [hv1] at h1
 cases h1 with
 | cons h1 _=>exact h1
theorem argA {T:Type}{t:TypeId}{c:Co T}{wf:T→Prop}{fs:Array Field}(ht:P.underlying t=some (.struct fs))(ho:Opn enc P W t c wf):ArgOk enc P W t (fun x=>.agg (c.e x)) wf:=fun r b0 v d ps hv hd hw=>by
 obtain ⟨n,hd⟩:=hd;obtain ⟨x,h1,h2⟩:=ho n _ _ hd hw;simp only [Value.okWide,ht] at hv;obtain ⟨cs,rfl,_⟩:=hv;exact ⟨x,⟨cs.toList,rfl,h1⟩,h2⟩
inductive ArgsOk (enc:TypeId×Value→H)(P:Program)(W:World):List TypeId→(List AV→Prop)→Prop
 | nil {Q:List AV→Prop}:Q []→ArgsOk enc P W [] Q
 | cons {T:Type} {t:TypeId} {ts:List TypeId} {av:T→AV} {wf:T→Prop} {Q:List AV→Prop}:ArgOk enc P W t av wf→(∀ x,wf x→ArgsOk enc P W ts fun az=>Q (av x::az))→ArgsOk enc P W (t::ts) Q
theorem ArgsOk.get {ts:List TypeId}{Q:List AV→Prop}(h:ArgsOk enc P W ts Q):∀ {vs:List Value} {ds:List (DataW H)} {ps:List MemPlace} {r:Reach} {b0:Nat},DataW.TrodAll enc P W 0 (fun _=>true) true ts vs ds ps→(∀ (j:Nat) t v,ts[j]?=some t→vs[j]?=some v→Value.okWide P W r b0 t v)→(∀ q ∈ DataW.weightsEach P ts ds,q≤reachBytes)→∃ az,AllP (Zof W) W az vs∧Q az:=by
 induction h with
 | nil hq =>
  intro vs ds ps r b0 ht _ _
  match vs,ds,ht with
  | [],[],_=>exact ⟨[],.nil,hq⟩
 | @cons T t ts av wf Q ha _ ih =>
  intro vs ds ps r b0 ht hv hw
  match vs,ds,ht with
  | v::vs,d::ds,⟨p,q,h1,h2,_⟩ =>
   obtain ⟨x,hx,hwf⟩:=ha r b0 v d p (hv 0 t v rfl rfl) h1 (weightsEach_get hw 0 t d rfl rfl);obtain ⟨az,h3,h4⟩:=ih x hwf h2 (fun j t v h h'=>hv (j+1) t v (by simpa using h) (by simpa using h')) (fun q hq=>hw q (by simp only [DataW.weightsEach,List.mem_append];exact .inr hq));exact ⟨_,.cons hx h3,h4⟩
theorem trodAll_same {W':World}(hk:∀ b,b<W.heap.size→W'.heap[b]?=W.heap[b]?):∀ {ts:List TypeId} {vs:List Value} {ds:List (DataW H)} {ps:List MemPlace},DataW.TrodAll enc P W 0 (fun _=>true) true ts vs ds ps→DataW.TrodAll enc P W' 0 (fun _=>true) true ts vs ds ps
 | [],[],[],_,h=>h
 | _::_,_::_,_::_,_,⟨p,q,⟨n,h1⟩,h2,e⟩=>⟨p,q,⟨n,DataW.trod_carry n _ _ _ h1 fun x hx=>by
   have hlt:=DataW.trod_lt n _ _ _ h1 x hx
   cases x with
   | cell b o=>exact World.cell?_of_block (w:=W) (hk b hlt)
   | map b=>exact hk b hlt⟩,trodAll_same hk h2,e⟩
theorem trodAll_lt:∀ {ts:List TypeId} {vs:List Value} {ds:List (DataW H)} {ps:List MemPlace},DataW.TrodAll enc P W 0 (fun _=>true) true ts vs ds ps→∀ p ∈ ps,p.block<W.heap.size
 | [],[],[],_,h,p,hp=>by simp [DataW.TrodAll] at h;subst h;cases hp
 | _::_,_::_,_::_,_,⟨p,q,⟨n,h1⟩,h2,e⟩,x,hx=>by
  subst e;rcases List.mem_append.1 hx with hx|hx
  ·exact DataW.trod_lt n _ _ _ h1 x hx
  ·exact trodAll_lt h2 x hx
theorem trodAll_len:∀ {ts:List TypeId} {vs:List Value} {ds:List (DataW H)} {ps:List MemPlace},DataW.TrodAll enc P W 0 (fun _=>true) true ts vs ds ps→ds.length=ts.length
 | [],[],[],_,h=>rfl
 | _::_,_::_,_::_,_,⟨p,q,_,h2,e⟩=>congrArg (·+1) (trodAll_len h2)
theorem law_post {f:FuncId}{fn:Func}{s:ChangeSpec}{tb:TypeId}(K:Kids P (·<P.types.size))(hz:∀ t e,t<P.types.size→P.underlying t=some (.slice e)→0<P.cellsOf e)(hp:∀ t ∈ fn.params.toList,t<P.types.size)
  (hr:fn.resultTypes=#[tb]) (hb:P.underlying tb=some .bool) (hv:s.vars=[]) (hfn:∀ ds:List (DataW H),ds.length=fn.params.toList.length→s.fn H (ds++[])=⟨[.lit (.bool true)],ds,[]⟩)
  {base:Nat} {args:Array Value} {ds gs:List (DataW H)} {before:List MemPlace} (hval:∀ (j:Nat) t v,fn.params[j]?=some t→args[j]?=some v→Value.okWide P W .any base t v) (hW:DataW.Whole enc P fn.params.toList s.vars false W args.toList ds gs before)
  (hsz:(DataW.weightsEach P (fn.params.toList++s.plain.varTypes P) (ds++gs)).all (·≤reachBytes)=true)
  (main:ArgsOk enc P W fn.params.toList fun az=>Spec P f az [] fun a H=>a=Ab true∧H=[]):Calls P f args W fun e W'=>∃ v,e = .returned v∧s.post enc P fn false true false false W args v W':=by
 have hW':=hW;obtain ⟨p,q,hA,hV,rfl,hfz,hnd⟩:=hW;rw [hv] at hV;obtain ⟨rfl,rfl⟩:=trodVars_none hV;have hlen:ds.length=fn.params.toList.length:=trodAll_len hA;have hsz':∀ q ∈ DataW.weightsEach P fn.params.toList ds,q≤reachBytes:=by
  simp only [List.all_eq_true,decide_eq_true_eq] at hsz;have hvt:s.plain.varTypes P=[]:=by simp [DataSpec.varTypes,ChangeSpec.plain,hv]
  rw [hvt,List.append_nil,List.append_nil] at hsz;exact hsz
 obtain ⟨az,h1,h2⟩:=main.get hA (r:=.any) (b0:=base) (fun j t v h h'=>hval j t v (by simpa using h) (by simpa using h')) hsz';have hc:=h2 W (fun _=>False) (Zof W) args.toList h1 ⟨Base.refl _ _,fun _ h=>h,fun b h=>⟨h,.inl h⟩,fun b h=>h.elim,trivial⟩;rw [Array.toArray_toList] at hc;refine hc.mono fun e W' ⟨v,he,F,Z,a,H',⟨ha,hH'⟩,hi,hav⟩=>⟨v,he,?_⟩
 subst ha;have hk:∀ b,b<W.heap.size→W'.heap[b]?=W.heap[b]?:=fun b h=>hi.base.keep b h (fun h=>h)
 have hv':v = .bool true:=hav;subst hv';have hall:=trodAll_same hk hA;refine ⟨ds,[],p++[],[],p,[],hW',?_,?_,?_,?_,fun h=>by cases h⟩
 ·rw [hfn ds hlen,hr];exact trodAll_mk1 (shut_bool hb _)
 ·rw [hfn ds hlen];exact DataW.TrodAll.respare K hz hp hall fun x hx=>by simpa using trodAll_lt hA x hx
 ·rw [hfn ds hlen,hv];rfl
 ·refine ⟨hi.base.os,hi.base.output,fun i hi'=>?_⟩;rw [hk i hi']
  split <;> simp_all
end
end S
namespace S
open Go.RowKit
set_option exponentiation.threshold 3000
section
open Ieee
def Vl (s:Bool)(m:Nat)(e:Int)(n:Int):Prop:=signed s m 0*2 ^ e.toNat=n*2 ^ (-e).toNat
def Rd (b:Nat)(n:Int):Prop:=b<2 ^ 64∧∃ s m e,double.read b = .number s m e∧Vl s m e n
end
def sml (n:Int):Prop:=-9007199254740992<n∧n<9007199254740992
instance (n:Int):Decidable (sml n):=inferInstanceAs (Decidable (_∧_))
def AV.cx (z:Int×Int):AV:=⟨fun _ _ v=>(∃ x y,v = .complex .f64 x y∧Rd x z.1∧Rd y z.2)∧sml z.1∧sml z.2,fun _ _ h=>h⟩
theorem rd_zero:Rd 0 0:=⟨by decide,false,0,-1074,by decide,by unfold Vl;decide⟩
section
variable {P:Program}{n:Nat}{fr:Fr}{H:List Res}{t t' t'' ty e:TypeId}{x y:Operand}
theorem Vj {zs:List Value}{az cs:List AV}{ps:Array (Nat×Operand)}{m sz:Nat}(ht:P.underlying t=some (.array m e))(hs:SizeIs P e sz)(hz:∀ w,(zeroValue t).run P w = .ok (.agg zs.toArray) w)
  (ha:∀ Z w,AllP Z w az zs) (hp:Parts fr (fun i=>some (i*sz,sz)) az ps.toList cs):D P n H (.build t ps) ty fr (.agg cs) :=
 .of fun o ho hty w Z F ρ _ hf=>by
  obtain ⟨us,h1,h2⟩:=fill_parts hp (ρ:=ρ) (Z:=Z) (w:=w) (fun {x a} hmem hx=>hf (by simp [Op.operands];simpa using hmem) hx) zs (ha Z w);refine ⟨.agg us.toArray,?_,us,rfl,h2⟩;have h1'':Instr.fill (fun i=>some (i*sz,sz)) zs.toArray (Array.map (fun x=>match x with|(i,x)=>(i,ρ x)) ps).toList=some us.toArray:=by
   have hps:(ps.map fun p=>(p.1,ρ p.2)).toList=ps.toList.map fun p=>(p.1,ρ p.2):=by simp
   rw [← hps] at h1;exact h1
  simp only [execOp,ho,Instr.build,Sem.run_bind,hz w,Result.andThen_ok,Sem.run_pure,run_underlying ht,hs w,Value.cells];simp only [h1'',Sem.run_pure,Result.andThen_ok]
end
section
variable {P:Program}{w:World}
theorem eqF_step {d:Nat}{xs ys:Array Value}{f:Field}{fs:List Field}{a b:Value}{r:Bool}(hn:f.name ≠ "_")(hx:(part f.type xs f.offset).run P w = .ok a w)(hy:(part f.type ys f.offset).run P w = .ok b w)(he:(Op.equalIn d f.type a b).run P w = .ok r w) :
  (Op.eqFields d xs ys (f::fs)).run P w=if r=true then (Op.eqFields d xs ys fs).run P w else .ok false w:=by
 simp only [Op.eqFields,if_pos hn,Sem.run_bind,hx,hy,he,Result.andThen_ok,Sem.run_ite,Sem.run_pure];cases r <;> simp
theorem eqF_int {d:Nat}{xs ys:List Value}{f:Field}{fs:List Field}{k k':IntKind}{a b:Int}(hn:f.name ≠ "_")(hg:IsAgg P f.type false)(ht:P.underlying f.type=some (.int k'))(hx:xs[f.offset]?=some (.int k a))(hy:ys[f.offset]?=some (.int k b)) :
  (Op.eqFields (d+1) xs.toArray ys.toArray (f::fs)).run P w=if a=b then (Op.eqFields (d+1) xs.toArray ys.toArray fs).run P w else .ok false w:=by
 rw [eqF_step hn (part_one hg hx) (part_one hg hy) (run_equalIn_int w d _ _ _ _ _ ht)];simp
theorem eqF_bool {d:Nat}{xs ys:List Value}{f:Field}{fs:List Field}{a b:Bool}(hn:f.name ≠ "_")(hg:IsAgg P f.type false)(ht:P.underlying f.type=some .bool)(hx:xs[f.offset]?=some (.bool a))(hy:ys[f.offset]?=some (.bool b)) :
  (Op.eqFields (d+1) xs.toArray ys.toArray (f::fs)).run P w=if a=b then (Op.eqFields (d+1) xs.toArray ys.toArray fs).run P w else .ok false w:=by
 rw [eqF_step hn (part_one hg hx) (part_one hg hy) (run_equalIn_bool' w d _ _ _ ht)];simp
theorem eqF_nil {d:Nat}{xs ys:Array Value}:(Op.eqFields d xs ys []).run P w = .ok (decide True) w:=by simp [Op.eqFields]
theorem ok_ite {p:Prop}[Decidable p]{q:Prop}[Decidable q]:(if p then (Result.ok (decide q) w:Result Bool) else .ok false w) = .ok (decide (p∧q)) w:=by
 by_cases hp:p <;> simp [hp]
variable {n:Nat}{fr:Fr}{H:List Res}{t t' ty:TypeId}{a b:Operand}
end
end S
namespace S
open Go.RowKit
section
variable {P:Program}{f:FuncId}{n:Nat}{ops:Array Oper}{l:List Oper}{k:List Item}{fr:Fr}{H:List Res}{ρ R:Type}{x:Option ρ}{X:ρ→Option R}{K:R→AV→List Res→Prop}{t ty e:TypeId}{T:Type}{c:Co T}
theorem agg_imp {Z:Nat→Prop}{w:World}{az:List AV}{v:Value}{i:Nat}{a b:AV}(h:(AV.agg az).p Z w v)(hi:az[i]?=some a)(hab:∀ u,a.p Z w u→b.p Z w u):(AV.agg (az.set i b)).p Z w v:=by
 obtain ⟨vs,e,h⟩:=h;exact ⟨vs,e,h.imp hi hab⟩
theorem Qm {todo:List Item}(u i:Nat)(c:Co T){az:List AV}(hu:look fr u=some (.agg az))(hi:az[i]?=some (.lit (.slice none 0 0)))(h:Sim P f n todo ((u,.agg (az.set i (.fsl c [])))::fr) H x X K):Sim P f n todo fr H x X K:=by
 intro r hr w0 F0 Z0 w F Z tmps hn hinv hf;refine h r hr w0 F0 Z0 w F Z tmps hn hinv fun t a ht=>?_
 simp only [look] at ht
 by_cases e:u=t
 ·subst e;simp at ht;subst ht;exact agg_imp (hf u _ hu) hi fun q hq=>by rw [show q=_ from hq];exact ⟨none,0,rfl,Nat.le_refl _,fun i x hx=>by simp at hx⟩
 ·have:(u == t)=false:=by simpa using e
  rw [this] at ht;exact hf t a (by simpa using ht)
theorem jk (u i:Nat)(c:Co T){az:List AV}(hu:look fr u=some (.agg az))(hi:az[i]?=some (.lit (.slice none 0 0)))(h:SimL P f n ops l k ((u,.agg (az.set i (.fsl c [])))::fr) H x X K):SimL P f n ops l k fr H x X K:=fun is hs=>Qm u i c hu hi (h is hs)
end
end S
namespace S
open Go.RowKit
theorem filter_less (S:List Nat)(i:Nat)(hS:i ∉ S):∀ l:List Nat,i ∈ l→(l.filter fun j=>!(i::S).elem j).length<(l.filter fun j=>!S.elem j).length:=by
 intro l;have le:∀ l:List Nat,(l.filter fun j=>!(i::S).elem j).length≤(l.filter fun j=>!S.elem j).length:=by
  intro l
  induction l with
  | nil=>simp
  | cons a l ih =>
   simp only [List.filter_cons]
   by_cases h:S.elem a=true
   ·have:(i::S).elem a=true:=by simp at h ⊢;exact .inr h
    simp only [h,this,Bool.not_true];exact ih
   ·have h':S.elem a=false:=by simpa using h
    simp only [h',Bool.not_false,if_true]
    split
    ·simp only [List.length_cons];omega
    ·simp only [List.length_cons];omega
 induction l with
 | nil=>intro h;cases h
 | cons a l ih =>
  intro h
  by_cases e:i=a
  ·subst e;have h1:(i::S).elem i=true:=by simp
   have h2:S.elem i=false:=by simpa using hS
   simp only [List.filter_cons,h1,h2,Bool.not_true,Bool.not_false,if_true,List.length_cons];have:=le l;simp at this ⊢;omega
  ·have h:=ih (by simpa [e] using h);simp only [List.filter_cons]
   by_cases g:S.elem a=true
   ·have:(i::S).elem a=true:=by simp at g ⊢;exact .inr g
    simp only [g,this,Bool.not_true];exact h
   ·have h':S.elem a=false:=by simpa using g
    have h2:(i::S).elem a=false:=by
     simp at g ⊢;exact ⟨fun x=>e x.symm,g⟩
    simp only [h',h2,Bool.not_false,if_true,List.length_cons];omega
theorem lin_map {ops:Array Oper}{S is:List Nat}(h:Lin ops S is):is.map (fun i=>ops[i]?)=(is.filterMap fun i=>ops[i]?).map some:=by
 induction h with
 | nil=>rfl
 | cons ho _ _ _ ih=>simp [ho,ih]
def Each {α:Type}(p:α→Prop):List α→Prop
 | []=>True
 | a::l=>p a∧Each p l
theorem Each.mem {α:Type}{p:α→Prop}{l:List α}(h:Each p l):∀ a ∈ l,p a:=by
 induction l with
 | nil=>simp
 | cons b l ih =>
  intro a ha;rcases List.mem_cons.1 ha with rfl|ha
  ·exact h.1
  ·exact ih h.2 a ha
def pickR (H:List Res):List Nat→List Res
 | []=>[]
 | j::js=>match H[j]? with
  | some r=>r::pickR (H.eraseIdx j) js
  | none=>[]
theorem HAll.pickR {Z:Nat→Prop}{w:World}:∀ (js:List Nat) {H:List Res} {F:Nat→Prop},HAll H Z w F→HAll (S.pickR H js) Z w F:=by
 intro js
 induction js with
 | nil=>intros;trivial
 | cons j js ih =>
  intro H F h;unfold S.pickR
  cases hj:H[j]? with
  | none=>trivial
  | some r =>
   obtain ⟨F1,F2,h1,h2,d1,d2⟩:=h.take hj;exact ⟨F1,F2,h1,ih h2,d1,d2⟩
section
variable {P:Program}{f:FuncId}{n:Nat}{ops:Array Oper}{l:List Oper}{k:List Item}{fr:Fr}{H:List Res}{ρ R:Type}{x:Option ρ}{X:ρ→Option R}{K:R→AV→List Res→Prop}
theorem W1 {fr':Fr}{H':List Res}(h:Sim P f n k fr' H' x X K)(js:List Nat)(hs:Sub fr' fr)(hH:S.pickR H js=H'):Sim P f n k fr H x X K:=by
 subst hH;exact fun r hr w0 F0 Z0 w F Z tmps hn hi hf=>h r hr w0 F0 Z0 w F Z tmps hn (hi.less (·.pickR js)) (fun t a ht=>hf t a (hs.look ht))
theorem zg {T:Type}{c:Co T}{todo:List Item}(j i:Nat)(e:TypeId){b:Nat}{az:List AV}(hj:H[j]?=some (.box b az))(hu:az[i]?=some (.lit (.slice none 0 0)))(h:∀ v,Sim P f n todo fr (.own e c v []::H.set j (.box b (az.set i (.sv v)))) x X K):Sim P f n todo fr H x X K:=by
 intro r hr w0 F0 Z0 w F Z tmps hn hi hf;obtain ⟨F',hi',_⟩:=hi.turn (w':=w) (r':=.box b (az.set i (.sv (.slice none 0 0)))) hj fun G1 ⟨hg,vs,t',e1,e2⟩ _=>⟨G1,Step.refl _ _,⟨hg,vs,t',e1,e2.imp hu fun u hu=>⟨hu,_,_,_,rfl⟩⟩,fun _ x=>.inl x⟩
 exact h (.slice none 0 0) r hr w0 F0 Z0 w F' Z tmps hn ⟨hi'.base,hi'.z0,hi'.zin,hi'.fin,fun _=>False,F',.inr ⟨rfl,none,rfl⟩,hi'.res,fun b hb=>hb.elim,fun b hb=>hb⟩ hf
end
end S
namespace S
open Go.RowKit
theorem look_app (a b:Fr)(t:Nat):look (a++b) t=match look a t with | some v=>some v | none=>look b t:=by
 induction a with
 | nil=>rfl
 | cons p a ih =>
  obtain ⟨u,v⟩:=p;simp only [List.cons_append,look];cases h:u == t <;> simp [ih]
def frL (un:List Nat)(fr:Fr):Fr:=fr.filter fun p=>!un.elem p.1
theorem look_frL (un:List Nat)(fr:Fr)(t:Nat):look (frL un fr) t=if un.elem t=true then none else look fr t:=by
 unfold frL
 induction fr with
 | nil=>simp [look]
 | cons p fr ih =>
  obtain ⟨u,v⟩:=p;simp only [List.filter_cons]
  by_cases e:u=t
  ·subst e;cases h:un.elem u
   ·simp [look]
   ·simp only [Bool.not_true,Bool.false_eq_true,if_false];rw [ih,if_pos h];simp
  ·have hb:(u == t)=false:=by simpa using e
   split
   ·simp only [look,hb,cond_false,ih]
   ·simp only [look,hb,cond_false,ih]
abbrev Qs:=List (Nat×Nat×AV)
def qat:Qs→Nat→Option (Nat×AV)
 | [],_=>none
 | q::qs,i=>bif q.1 == i then some q.2 else qat qs i
theorem qat_mem {qs:Qs}{i:Nat}{p:Nat×AV}(h:qat qs i=some p):(i,p) ∈ qs:=by
 induction qs with
 | nil=>simp [qat] at h
 | cons q qs ih =>
  simp only [qat] at h;cases e:q.1 == i
  ·rw [e] at h;exact List.mem_cons_of_mem _ (ih h)
  ·rw [e] at h;simp at h e;subst h e;exact List.mem_cons_self ..
def Avl (qs:Qs)(S:List Nat)(t:Nat):Prop:=∀ q ∈ qs,q.2.1=t→q.1 ∈ S
def bitsOf (ops:Array Oper)(i:Nat):Nat:=(bef [] ops.toList).getD i 0
theorem bits_in {ops:Array Oper}(hb:backOk ops=true){S:List Nat}(hS:Closed ops S){i j:Nat}{o:Oper}(ho:ops[i]?=some o)(he:∀ e ∈ edgesOn o,e ∈ S)(hj:(bitsOf ops i).testBit j=true):j ∈ S:=by
 have hi:i<ops.size:=by
  rcases Nat.lt_or_ge i ops.size with h|h
  ·exact h
  ·simp [h] at ho
 exact bef_ok ops hb ops.toList [] (fun k o hk=>by simpa using hk) (fun i o hi=>by simp at hi) i o (by simpa using hi) ho S hS he j hj
def reads (ops:Array Oper)(o:Oper):List Nat:=opTmps o.op++match o.guard with
 | some (j,_)=>((ops[j]?).bind (·.dst)).toList
 | none=>[]
def keyOf (o:Oper):Option Nat×List Nat:=(o.dst,opTmps o.op)
def mOk (ops:Array Oper)(ids:List (Nat×Nat))(ns:List Nat):Bool :=
 ((List.range ops.size).all fun i=>ns.elem i || ids.any fun q=>q.1 == i) &&
 (ids.all fun q=>!ns.elem q.1 && ids.all fun p=>(p.1 == q.1) == (p.2 == q.2)) &&
 (ids.all fun p=>match ops[p.1]? with
  | some o=>ids.all fun q=>!(reads ops o).elem q.2 || (!(p.1 == q.1) && (bitsOf ops p.1).testBit q.1)
  | none=>false) &&
 ((List.range ops.size).all fun i=>(List.range i).all fun j=>match ops[i]?,ops[j]? with
  | some o,some p=>!(keyOf o == keyOf p)
  | _,_=>true)
def extsE (ops:Array Oper)(bs ns:List Nat):Nat→List Nat→List (List Nat)
 | m,S=>if ns.all (fun i=>S.elem i) then [[]] else match m with
  | 0=>[]
  | m+1=>ns.flatMap fun i=>if !S.elem i && ns.all (fun j=>!(bs.getD i 0).testBit j || S.elem j) then (extsE ops bs ns m (i::S)).map (i::·) else []
theorem Closed.add {ops:Array Oper}{S:List Nat}{i:Nat}{o:Oper}(h:Closed ops S)(ho:ops[i]?=some o)(he:∀ e ∈ edgesOn o,e ∈ S):Closed ops (i::S):=by
 intro j hj p hp e hee;rcases List.mem_cons.1 hj with rfl|hj
 ·rw [ho] at hp;cases hp;exact List.mem_cons_of_mem _ (he e hee)
 ·exact List.mem_cons_of_mem _ (h j hj p hp e hee)
theorem lin_extsE {ops:Array Oper}(hb:backOk ops=true){ns S is:List Nat}(hns:∀ i ∈ ns,i<ops.size)(h:Lin ops S is):Closed ops S→∀ m S',(∀ j ∈ ns,j ∈ S'↔j ∈ S)→(ns.filter fun j=>!S'.elem j).length≤m→(is.filter fun i=>ns.elem i) ∈ extsE ops (bef [] ops.toList) ns m S':=by
 induction h with
 | @nil S h =>
  intro _ m S' hS' _;unfold extsE;have hall:ns.all (fun i=>S'.elem i)=true:=by
   rw [List.all_eq_true];intro i hi;simpa using (hS' i hi).2 (h i (hns i hi))
  rw [if_pos hall];simp
 | @cons S is i o ho hn he _ ih =>
  intro hcl m S' hS' hm;have hcl':=hcl.add ho he
  cases hi:ns.elem i with
  | false =>
   have hi':i ∉ ns:=by simpa using hi
   simp only [List.filter_cons,hi,Bool.false_eq_true,if_false];refine ih hcl' m S' (fun j hj=>?_) hm;rw [hS' j hj,List.mem_cons];exact ⟨.inr,fun h=>h.resolve_left fun e=>hi' (e ▸ hj)⟩
  | true =>
   have hi':i ∈ ns:=by simpa using hi
   simp only [List.filter_cons,hi,if_true];have hnS':i ∉ S':=fun h=>hn ((hS' i hi').1 h)
   have hlt:=filter_less S' i hnS' ns hi';unfold extsE;rw [if_neg]
   ·cases m with
    | zero=>omega
    | succ m =>
     simp only [List.mem_flatMap];refine ⟨i,hi',?_⟩;have hc:(!S'.elem i && ns.all (fun j=>!((bef [] ops.toList).getD i 0).testBit j || S'.elem j))=true:=by
      rw [Bool.and_eq_true,List.all_eq_true];refine ⟨by simpa using hnS',fun j hj=>?_⟩
      cases hbit:((bef [] ops.toList).getD i 0).testBit j with
      | false=>rfl
      | true =>
       have:=bits_in hb hcl ho he (j:=j) hbit;simpa using (hS' j hj).2 this
     rw [if_pos hc,List.mem_map];refine ⟨_,ih hcl' m (i::S') (fun j hj=>?_) (by omega),rfl⟩;rw [List.mem_cons,List.mem_cons,hS' j hj]
   ·intro h;rw [List.all_eq_true] at h;have:=h i hi';exact hnS' (by simpa using this)
section
variable {P:Program}{f:FuncId}{n:Nat}{ops:Array Oper}{k:List Item}{fr:Fr}{H:List Res}{ρ R:Type}{x:Option ρ}{X:ρ→Option R}{K:R→AV→List Res→Prop}
def SimM (P:Program)(f:FuncId)(n:Nat)(ops:Array Oper)(k:List Item)(qs:Qs)(fr0:Fr)(ns dn es:List Nat)(fe:Fr)(H:List Res){ρ R:Type}(x:Option ρ)(X:ρ→Option R)(K:R→AV→List Res→Prop):Prop :=
 ∀ S is,Lin ops S is→Closed ops S→(∀ i ∈ dn,i ∈ S)→(∀ q ∈ qs,q.1 ∉ S→look fe q.2.1=none)→(is.filter fun i=>ns.elem i)=es→∀ r,x.bind X=some r→∀ (w0:World) (F0 Z0:Nat→Prop) (w:World) (F Z:Nat→Prop) (tmps:Array Value),tmps.size=n→Inv w0 w F0 Z0 F Z H →
  (∀ t a,look (fe++(qs.map (·.2)++fr0)) t=some a→Avl qs S t→a.p Z w (tmps.getD t undef))→Run P f (.inRegion ops is::k) tmps w (Done w0 F0 Z0 (K r))
inductive QP (P:Program)(n:Nat)(H:List Res)(ops:Array Oper)(fr:Fr)(qs:Qs):List Nat→Prop
 | n:QP P n H ops fr qs []
 | c {i d:Nat} {is:List Nat} {o:Oper} {av:AV}:ops[i]?=some o→qat qs i=some (d,av)→o.dst=some d→Nat.blt d n=true→QOp P n H ops fr o av→QP P n H ops fr qs is→QP P n H ops fr qs (i::is)
theorem QP.get {qs:Qs}{is:List Nat}(h:QP P n H ops fr qs is):∀ i ∈ is,∃ d o av,ops[i]?=some o∧qat qs i=some (d,av)∧o.dst=some d∧d<n∧QOp P n H ops fr o av:=by
 induction h with
 | n=>intro i hi;cases hi
 | c h1 h2 h3 h4 h5 _ ih =>
  intro i hi;rcases List.mem_cons.1 hi with rfl|hi
  ·exact ⟨_,_,_,h1,h2,h3,by simpa [Nat.blt_eq] using h4,h5⟩
  ·exact ih i hi
def pendOk (ops:Array Oper)(ids:List (Nat×Nat))(dn pend:List Nat):Bool:=ids.all fun q=>pend.elem q.1 || dn.any fun j=>(bitsOf ops j).testBit q.1
theorem qs_uniq {qs:Qs}{ns:List Nat}(hm:mOk ops (qs.map fun q=>(q.1,q.2.1)) ns=true){p q:Nat×Nat×AV}(hp:p ∈ qs)(hq:q ∈ qs)(h:p.2.1=q.2.1):p.1=q.1:=by
 simp only [mOk,Bool.and_eq_true] at hm;have h2:=List.all_eq_true.1 hm.1.1.2 (q.1,q.2.1) (List.mem_map.2 ⟨q,hq,rfl⟩);rw [Bool.and_eq_true] at h2;have h3:=List.all_eq_true.1 h2.2 (p.1,p.2.1) (List.mem_map.2 ⟨p,hp,rfl⟩);rw [beq_iff_eq] at h3;simp only [h,beq_self_eq_true] at h3;simpa using h3
theorem qs_uniq' {qs:Qs}{ns:List Nat}(hm:mOk ops (qs.map fun q=>(q.1,q.2.1)) ns=true){p q:Nat×Nat×AV}(hp:p ∈ qs)(hq:q ∈ qs)(h:p.1=q.1):p.2.1=q.2.1:=by
 simp only [mOk,Bool.and_eq_true] at hm;have h2:=List.all_eq_true.1 hm.1.1.2 (q.1,q.2.1) (List.mem_map.2 ⟨q,hq,rfl⟩);rw [Bool.and_eq_true] at h2;have h3:=List.all_eq_true.1 h2.2 (p.1,p.2.1) (List.mem_map.2 ⟨p,hp,rfl⟩);rw [beq_iff_eq] at h3;simp only [h,beq_self_eq_true] at h3;simpa using h3
theorem look_qs {qs:Qs}{fr0:Fr}{ns:List Nat}(hm:mOk ops (qs.map fun q=>(q.1,q.2.1)) ns=true){q:Nat×Nat×AV}(hq:q ∈ qs){a:AV}(h:look (qs.map (·.2)++fr0) q.2.1=some a):∃ p ∈ qs,p.1=q.1∧p.2=(q.2.1,a):=by
 have key:∀ l:Qs,q ∈ l→(∀ p ∈ l,p ∈ qs)→look (l.map (·.2)++fr0) q.2.1=some a→∃ p ∈ qs,p.1=q.1∧p.2=(q.2.1,a):=by
  intro l
  induction l with
  | nil=>intro h;cases h
  | cons p l ih =>
   intro h1 h2 h3;obtain ⟨i,d,v⟩:=p;simp only [List.map_cons,List.cons_append,look] at h3
   by_cases e:d=q.2.1
   ·subst e;simp at h3;subst h3;exact ⟨_,h2 _ (List.mem_cons_self ..),qs_uniq hm (h2 _ (List.mem_cons_self ..)) hq rfl,rfl⟩
   ·have:(d == q.2.1)=false:=by simpa using e
    rw [this] at h3;refine ih ?_ (fun p hp=>h2 p (List.mem_cons_of_mem _ hp)) (by simpa using h3);rcases List.mem_cons.1 h1 with h|h
    ·exact absurd (by rw [h]) e
    ·exact h
 exact key qs hq (fun p hp=>hp) h
theorem mQ {qs:Qs}{fr0 fe:Fr}{ns dn es:List Nat}(pend:List Nat)(hb:backOk ops=true)(hm:mOk ops (qs.map fun q=>(q.1,q.2.1)) ns=true)(hq:QP P n H ops (fe++(qs.map (·.2)++fr0)) qs pend)(hp:pendOk ops (qs.map fun q=>(q.1,q.2.1)) dn pend=true)
  (h:∀ S is,Lin ops S is→(∀ i is',is=i::is'→ns.elem i=true)→Closed ops S→(∀ i ∈ dn,i ∈ S)→(∀ q ∈ qs,q.1 ∉ S→look fe q.2.1=none)→(is.filter fun i=>ns.elem i)=es→∀ r,x.bind X=some r→∀ (w0:World) (F0 Z0:Nat→Prop) (w:World) (F Z:Nat→Prop) (tmps:Array Value),tmps.size=n→Inv w0 w F0 Z0 F Z H →
   (∀ t a,look (fe++(qs.map (·.2)++fr0)) t=some a→Avl qs S t→a.p Z w (tmps.getD t undef))→Run P f (.inRegion ops is::k) tmps w (Done w0 F0 Z0 (K r))):SimM P f n ops k qs fr0 ns dn es fe H x X K:=by
 intro S is hl;have hm0:=hm;simp only [mOk,Bool.and_eq_true] at hm0
 induction hl with
 | @nil S hS=>exact h S [] (.nil hS) (by simp)
 | @cons S is i o ho hn he hl ih =>
  cases hi:ns.elem i with
  | true=>exact h S (i::is) (.cons ho hn he hl) (fun j is' e=>by cases e;exact hi)
  | false =>
   intro hcl hdn hfe hes r hr w0 F0 Z0 w F Z tmps hsz hinv hf;have hilt:i<ops.size:=by
    rcases Nat.lt_or_ge i ops.size with h|h
    ·exact h
    ·simp [h] at ho
   have hiq:∃ q ∈ qs,q.1=i:=by
    have:=(all_lt _ _).1 hm0.1.1.1 i hilt;rw [hi,Bool.false_or,List.any_eq_true] at this;obtain ⟨q,hq1,hq2⟩:=this;obtain ⟨p,hp1,rfl⟩:=List.mem_map.1 hq1;exact ⟨p,hp1,by simpa using hq2⟩
   obtain ⟨q0,hq0,hq0i⟩:=hiq;have hpend:i ∈ pend:=by
    have:=List.all_eq_true.1 hp (q0.1,q0.2.1) (List.mem_map.2 ⟨q0,hq0,rfl⟩);rw [Bool.or_eq_true] at this;rcases this with h|h
    ·simpa [hq0i] using h
    ·exfalso;rw [List.any_eq_true] at h;obtain ⟨j,hj1,hj2⟩:=h;have hjS:=hdn j hj1;have hjo:∃ p,ops[j]?=some p:=by
      rcases Nat.lt_or_ge j ops.size with hlt|hge
      ·exact ⟨ops[j],by simp [hlt]⟩
      ·exfalso;have hz:∀ (l:List Oper) (bs:List Nat),(bef bs l).length=bs.length+l.length:=by
        intro l
        induction l with
        | nil=>intro bs;simp [bef]
        | cons o l ih=>intro bs;simp only [bef];rw [ih];simp;omega
       have:(bef [] ops.toList).length≤j:=by rw [hz];simpa using hge
       simp only [bitsOf,List.getD_eq_getElem?_getD,List.getElem?_eq_none this,Option.getD_none,Nat.zero_testBit] at hj2;cases hj2
     obtain ⟨p,hpj⟩:=hjo;have:=bits_in hb hcl hpj (hcl j hjS p hpj) hj2;simp only [hq0i] at this;exact hn this
   obtain ⟨d,o',av,ho',hqat,hd,hdn',hop⟩:=hq.get i hpend;rw [ho] at ho';cases ho';have hqm:=qat_mem hqat;have hslot:∀ t,t ∈ reads ops o→∀ a,look (fe++(qs.map (·.2)++fr0)) t=some a→a.p Z w (tmps.getD t undef):=by
    intro t ht a hla;refine hf t a hla fun q hqq hqt=>?_
    have h1:=List.all_eq_true.1 hm0.1.2 (i,d) (List.mem_map.2 ⟨_,hqm,rfl⟩);simp only [ho] at h1;have h2:=List.all_eq_true.1 h1 (q.1,q.2.1) (List.mem_map.2 ⟨q,hqq,rfl⟩);simp only [hqt,Bool.or_eq_true,Bool.and_eq_true,Bool.not_eq_true'] at h2;rcases h2 with h2|⟨_,h2⟩
    ·exact absurd ht (by simpa using h2)
    ·exact bits_in hb hcl ho he h2
   have hon:FrOn (opTmps o.op) (fe++(qs.map (·.2)++fr0)) Z w tmps:=fun t ht a ha=>hslot t (by unfold reads;simp [ht]) a ha
   have hes':(is.filter fun i=>ns.elem i)=es:=by
    rw [List.filter_cons,hi] at hes;exact hes
   have next:∀ v w' Z',Inv w0 w' F0 Z0 F Z' H→(∀ b,Z b→Z' b)→Keep Z w w'→av.p Z' w' v→Run P f (.inRegion ops is::k) (tmps.setIfInBounds d v) w' (Done w0 F0 Z0 (K r)):=by
    intro v w' Z' hi' hz hk hv;refine ih (hcl.add ho he) (fun j hj=>List.mem_cons_of_mem _ (hdn j hj)) (fun q hqq hqn=>hfe q hqq fun hx=>hqn (List.mem_cons_of_mem _ hx)) hes' r hr w0 F0 Z0 w' F Z' _ (by simpa using hsz) hi' fun t a hla hav=>?_
    rw [getD_set _ _ _ _ (by omega)]
    by_cases e:d=t
    ·subst e;rw [if_pos rfl];have hnone:=hfe _ hqm hn;simp only at hnone;rw [look_app,hnone] at hla;obtain ⟨p,hp1,hp2,hp3⟩:=look_qs hm hqm hla;have:p=(i,d,av)∨p.1=i:=.inr hp2;have hq2:=hqat;have hsame:∀ l:Qs,(∀ u ∈ l,u ∈ qs)→qat l i=some (d,av)→look (l.map (·.2)++fr0) d=some a→a=av:=by
      intro l
      induction l with
      | nil=>intro _ h;simp [qat] at h
      | cons u l ihl =>
       intro hu h1 h2;obtain ⟨i',d',v'⟩:=u;simp only [qat] at h1;simp only [List.map_cons,List.cons_append,look] at h2
       by_cases ei:i'=i
       ·subst ei;simp at h1;obtain ⟨rfl,rfl⟩:=h1;simpa using h2.symm
       ·have eb:(i' == i)=false:=by simpa using ei
        rw [eb] at h1;have hdd:d'≠d:=fun ed=>ei (qs_uniq hm (hu _ (List.mem_cons_self ..)) hqm ed)
        have ed:(d' == d)=false:=by simpa using hdd
        rw [ed] at h2;exact ihl (fun u h=>hu u (List.mem_cons_of_mem _ h)) (by simpa using h1) (by simpa using h2)
     rw [hsame qs (fun u h=>h) hqat hla];exact hv
    ·rw [if_neg e];refine a.st hz hk (hf t a hla fun q hqq hqt=>?_);rcases List.mem_cons.1 (hav q hqq hqt) with h|h
     ·exfalso;apply e;rw [← hqt];exact (qs_uniq' hm hqm hqq h.symm)
     ·exact h
   cases hop with
   | r hD=>exact does_run (d:=d) hd hdn' ho (wanted_none rfl) hsz hinv (hD _ rfl rfl w0 F0 Z0 w F Z tmps hsz hinv hon) next
   | @g op ty dst pos aft av j dj b t oj hj hdj hl' ht hjn hD =>
    have hjn':dj<tmps.size:=by rw [hsz];simpa [Nat.blt_eq] using hjn
    have hy:=yield_of hj hdj hjn' (hslot dj (by simp [reads,hj,hdj]) _ hl');exact does_run (d:=d) hd hdn' ho (by simp [Region.wanted,hy,ht]) hsz hinv (hD _ rfl rfl w0 F0 Z0 w F Z tmps hsz hinv hon) next
   | @u op ty dst pos aft j dj b t oj hj hdj hl' ht hjn =>
    have hjn':dj<tmps.size:=by rw [hsz];simpa [Nat.blt_eq] using hjn
    have hy:=yield_of hj hdj hjn' (hslot dj (by simp [reads,hj,hdj]) _ hl');refine .unwanted ho (by subst ht;cases b <;> simp [Region.wanted,hy]) ?_;rw [show (⟨dst,op,ty,pos,aft,some (j,b)⟩:Oper).dst=some d from hd];exact next undef w Z hinv (fun _ x=>x) (Keep.refl _ _) rfl
   | @v op ty dst pos aft j dj b oj hj hdj hl' hjn =>
    have hjn':dj<tmps.size:=by rw [hsz];simpa [Nat.blt_eq] using hjn
    have hy:=yield_none hj hdj hjn' (hslot dj (by simp [reads,hj,hdj]) _ hl');refine .unwanted ho (by simp [Region.wanted,hy]) ?_;rw [show (⟨dst,op,ty,pos,aft,some (j,b)⟩:Oper).dst=some d from hd];exact next undef w Z hinv (fun _ x=>x) (Keep.refl _ _) rfl
inductive Ext (ts:List Nat):Fr→Fr→Prop
 | z {B:Fr}:Ext ts B B
 | s {t:Nat} {a:AV} {F B:Fr}:ts.elem t=true→Ext ts F B→Ext ts ((t,a)::F) B
theorem Ext.look {ts:List Nat}{F B:Fr}(h:Ext ts F B){t:Nat}(ht:ts.elem t=false):look F t=look B t:=by
 induction h with
 | z=>rfl
 | @s u a F B hu _ ih =>
  have:(u == t)=false:=by
   cases e:u == t with
   | false=>rfl
   | true =>
        have:u=t:=by simpa using e
        subst this;rw [hu] at ht;cases ht
  simp only [S.look,this,cond_false];exact ih
theorem look_slots {fe:Fr}{t:Nat}:look fe t=none↔(fe.map (·.1)).elem t=false:=by
 induction fe with
 | nil=>simp [look]
 | cons p fe ih =>
  obtain ⟨u,a⟩:=p
  by_cases e:u=t
  ·subst e;simp [look]
  ·have h1:(u == t)=false:=by simpa using e
   have h2:(t == u)=false:=by simpa using fun h=>e (Eq.symm h)
   simp only [look,h1,cond_false,ih,List.map_cons,List.elem_cons,h2]
def unOk (ops:Array Oper)(ids:List (Nat×Nat))(fs dn:List Nat)(e:Nat)(un:List Nat):Bool :=
 (ids.all fun q=>(bitsOf ops e).testBit q.1 || (dn.any fun j=>(bitsOf ops j).testBit q.1) || un.elem q.2) && (un.all fun t=>ids.any fun q=>q.2 == t) && fs.all fun t=>!un.elem t
def feOk (ops:Array Oper)(un dn fs fs':List Nat):Bool :=
 (fs'.all fun t=>!un.elem t) && (dn.all fun j=>match (ops[j]?).bind (·.dst) with
  | some t=>fs'.elem t
  | none=>true) && fs.all fun t=>fs'.elem t
theorem look_pass {qs:Qs}{t:Nat}(p:Nat×Nat×AV→Bool)(h:∀ q ∈ qs,q.2.1=t→p q=true):look ((qs.filter p).map (·.2)) t=look (qs.map (·.2)) t:=by
 induction qs with
 | nil=>rfl
 | cons q qs ih =>
  obtain ⟨i,d,a⟩:=q;have ih:=ih fun q hq=>h q (List.mem_cons_of_mem _ hq)
  by_cases e:d=t
  ·subst e;have:=h (i,d,a) (List.mem_cons_self ..) rfl;simp [List.filter_cons,this,look]
  ·have hb:(d == t)=false:=by simpa using e
   simp only [List.filter_cons,List.map_cons,look,hb,cond_false]
   split
   ·simp only [List.map_cons,look,hb,cond_false];exact ih
   ·exact ih
theorem look_mem {fe:Fr}{t:Nat}{a:AV}(h:look fe t=some a):(t,a) ∈ fe:=by
 induction fe with
 | nil=>simp [look] at h
 | cons p fe ih =>
  obtain ⟨u,b⟩:=p;simp only [look] at h
  by_cases e:u=t
  ·subst e;simp at h;subst h;exact List.mem_cons_self ..
  ·have hb:(u == t)=false:=by simpa using e
   rw [hb] at h;exact List.mem_cons_of_mem _ (ih h)
theorem same_ops {qs:Qs}{ns:List Nat}(hm:mOk ops (qs.map fun q=>(q.1,q.2.1)) ns=true){i j:Nat}{o:Oper}(hi:ops[i]?=some o)(hj:ops[j]?=some o):i=j:=by
 simp only [mOk,Bool.and_eq_true] at hm;have h4:=(all_lt _ _).1 hm.2;have lt:∀ {i:Nat},ops[i]?=some o→i<ops.size:=by
  intro i hi;rcases Nat.lt_or_ge i ops.size with h|h
  ·exact h
  ·simp [h] at hi
 rcases Nat.lt_trichotomy i j with h|h|h
 ·have:=(all_lt _ _).1 (h4 j (lt hj)) i h;simp [hi,hj] at this
 ·exact h
 ·have:=(all_lt _ _).1 (h4 i (lt hi)) j h;simp [hi,hj] at this
theorem same_list {qs:Qs}{ns:List Nat}(hm:mOk ops (qs.map fun q=>(q.1,q.2.1)) ns=true):∀ {ks is:List Nat} {l:List Oper},ks.map (fun i=>ops[i]?)=l.map some→is.map (fun i=>ops[i]?)=l.map some→ks=is:=by
 intro ks
 induction ks with
 | nil =>
  intro is l h1 h2
  cases l with
  | nil=>simpa using h2.symm
  | cons o l=>simp at h1
 | cons i ks ih =>
  intro is l h1 h2
  cases l with
  | nil=>simp at h1
  | cons o l =>
   cases is with
   | nil=>simp at h2
   | cons j is =>
    simp only [List.map_cons,List.cons.injEq] at h1 h2;rw [same_ops hm h1.1 h2.1,ih h1.2 h2.2]
theorem mE {qs:Qs}{fr0 fe:Fr}{ns dn es:List Nat}{e:Nat}{o:Oper}(un pend:List Nat)(hb:backOk ops=true)(hm:mOk ops (qs.map fun q=>(q.1,q.2.1)) ns=true)(hp:pendOk ops (qs.map fun q=>(q.1,q.2.1)) dn pend=true)(hun:unOk ops (qs.map fun q=>(q.1,q.2.1)) (fe.map (·.1)) dn e un=true)(ho:ops[e]?=some o)(hns:ns.elem e=true)
  (hq:QP P n H ops (fe++(qs.map (·.2)++fr0)) qs pend)
  (h:∀ (ab:Fr) (l:List Oper),(∀ {F':Fr} {H' H'':List Res} (fe':Fr) (js:List Nat),Sub fe' F'→Ext (fe'.map (·.1)) F' (frL un (fe++(qs.map (·.2)++fr0))++ab)→S.pickR H' js=H''→feOk ops un (e::dn) (fe.map (·.1)) (fe'.map (·.1))=true→SimM P f n ops k qs fr0 ns (e::dn) es fe' H'' x X K→SimL P f n ops l k F' H' x X K) →
   SimL P f n ops (o::l) k (frL un (fe++(qs.map (·.2)++fr0))++ab) H x X K):SimM P f n ops k qs fr0 ns dn (e::es) fe H x X K:=by
 refine mQ pend hb hm hq hp ?_;intro S is hl hhead hcl hdn hfe hes r hr w0 F0 Z0 w F Z tmps hsz hinv hf;have hm0:=hm;simp only [mOk,Bool.and_eq_true] at hm0;simp only [unOk,Bool.and_eq_true] at hun
 cases hl with
 | nil _=>simp at hes
 | @cons _ is i o' ho' hn he hl =>
  have hi:=hhead i is rfl;rw [List.filter_cons,hi,if_pos rfl] at hes;simp only [List.cons.injEq] at hes;obtain ⟨rfl,hes⟩:=hes;rw [ho] at ho';cases ho';have hlen:∀ (l:List Oper) (bs:List Nat),(bef bs l).length=bs.length+l.length:=by
   intro l
   induction l with
   | nil=>intro bs;simp [bef]
   | cons o l ih=>intro bs;simp only [bef];rw [ih];simp;omega
  have bitsS:∀ j ∈ dn,∀ q,(bitsOf ops j).testBit q=true→q ∈ S:=by
   intro j hj q hq';have:∃ p,ops[j]?=some p:=by
    rcases Nat.lt_or_ge j ops.size with hlt|hge
    ·exact ⟨ops[j],by simp [hlt]⟩
    ·exfalso;have:(bef [] ops.toList).length≤j:=by rw [hlen];simpa using hge
     simp only [bitsOf,List.getD_eq_getElem?_getD,List.getElem?_eq_none this,Option.getD_none,Nat.zero_testBit] at hq';cases hq'
   obtain ⟨p,hp⟩:=this;exact bits_in hb hcl hp (hcl j (hdn j hj) p hp) hq'
  have hav:∀ q ∈ qs,un.elem q.2.1=false→q.1 ∈ S:=by
   intro q hqq hqu;have:=List.all_eq_true.1 hun.1.1 (q.1,q.2.1) (List.mem_map.2 ⟨q,hqq,rfl⟩);simp only [hqu,Bool.or_false,Bool.or_eq_true] at this;rcases this with h|h
   ·exact bits_in hb hcl ho he h
   ·rw [List.any_eq_true] at h;obtain ⟨j,hj1,hj2⟩:=h;exact bitsS j hj1 _ hj2
  have hunq:∀ t,un.elem t=true→∃ q ∈ qs,q.2.1=t:=by
   intro t ht;have:=List.all_eq_true.1 hun.1.2 t (by simpa using ht);rw [List.any_eq_true] at this;obtain ⟨q,hq1,hq2⟩:=this;obtain ⟨p,hp1,rfl⟩:=List.mem_map.1 hq1;exact ⟨p,hp1,by simpa using hq2⟩
  have hqns:∀ q ∈ qs,q.1≠i:=by
   intro q hqq e;have:=List.all_eq_true.1 hm0.1.1.2 (q.1,q.2.1) (List.mem_map.2 ⟨q,hqq,rfl⟩);rw [Bool.and_eq_true] at this;rw [e,hi] at this;simp at this
  have hqfr:∀ {t:Nat} {a:AV},(∃ q ∈ qs,q.2.1=t)→look (qs.map (·.2)++fr0) t=some a→look (qs.map (·.2)) t=some a:=by
   rintro t a ⟨q,hqq,rfl⟩ hla;rw [look_app] at hla
   cases hc:look (qs.map (·.2)) q.2.1 with
   | some b=>rw [hc] at hla;exact hla
   | none =>
    rw [look_slots] at hc;have:q.2.1 ∉ (qs.map (·.2)).map (·.1):=by simpa using hc
    exact absurd (List.mem_map.2 ⟨q.2,List.mem_map.2 ⟨q,hqq,rfl⟩,rfl⟩) this
  let ab:Fr:=(qs.filter fun q=>S.elem q.1 && un.elem q.2.1).map (·.2)
  have hab:∀ {t:Nat} {a:AV},look ab t=some a→un.elem t=true∧look (qs.map (·.2)) t=some a∧Avl qs S t:=by
   intro t a hla;have hmem:=look_mem hla;obtain ⟨q,hq1,hq2⟩:=List.mem_map.1 hmem;rw [List.mem_filter,Bool.and_eq_true] at hq1;obtain ⟨hqq,hqs,hqu⟩:=hq1;rw [hq2] at hqu;have hall:Avl qs S t:=fun p hp hpt=>by
    have:p.1=q.1:=qs_uniq hm hp hqq (by rw [hpt,hq2]);rw [this];simpa using hqs
   refine ⟨hqu,?_,hall⟩;rw [← look_pass (fun q=>S.elem q.1 && un.elem q.2.1) (fun p hp hpt=>by
    rw [Bool.and_eq_true];exact ⟨by simpa using hall p hp hpt,by rw [hpt];exact hqu⟩)]
   exact hla
  have hba:∀ {t:Nat} {a:AV},un.elem t=true→look (qs.map (·.2)) t=some a→Avl qs S t→look ab t=some a:=by
   intro t a ht hla hall;show look ((qs.filter _).map (·.2)) t=_;rw [look_pass _ (fun p hp hpt=>by
    rw [Bool.and_eq_true];exact ⟨by simpa using hall p hp hpt,by rw [hpt];exact ht⟩)]
   exact hla
  refine h ab (is.filterMap fun i=>ops[i]?) ?_ (i::is) (by simp [ho,lin_map hl]) r hr w0 F0 Z0 w F Z tmps hsz hinv ?_
  ·intro F' H' H'' fe' js hsub hext hpk hok hM ks hks;have hke:=same_list hm hks (lin_map hl);subst hke;simp only [feOk,Bool.and_eq_true] at hok;intro r2 hr2 w0' F0' Z0' w' F'' Z' tmps' hn' hi' hf';refine hM (i::S) ks hl (hcl.add ho he) (fun j hj=>?_) (fun q hqq hqn=>?_) hes r2 hr2 w0' F0' Z0' w' F'' Z' tmps' hn' (hpk ▸ hi'.less (·.pickR js)) ?_
   ·rcases List.mem_cons.1 hj with rfl|hj
    ·exact List.mem_cons_self ..
    ·exact List.mem_cons_of_mem _ (hdn j hj)
   ·rw [look_slots]
    cases hu:un.elem q.2.1 with
    | false=>exact absurd (List.mem_cons_of_mem _ (hav q hqq hu)) hqn
    | true =>
     cases hc:(fe'.map (·.1)).elem q.2.1 with
     | false=>rfl
     | true =>
      have:=List.all_eq_true.1 hok.1.1 q.2.1 (by simpa using hc);rw [hu] at this;cases this
   ·intro t a hla hall;rw [look_app] at hla
    cases hc:look fe' t with
    | some b =>
     rw [hc] at hla;exact hf' t a (hsub.look (by rw [hc];exact hla))
    | none =>
     rw [hc] at hla;have hc':=look_slots.1 hc;refine hf' t a ?_;rw [hext.look hc',look_app,look_frL]
     cases hu:un.elem t with
     | true =>
      simp only [if_true];obtain ⟨q,hqq,hqt⟩:=hunq t hu;refine hba hu (hqfr ⟨q,hqq,hqt⟩ hla) fun p hp hpt=>?_
      rcases List.mem_cons.1 (hall p hp hpt) with h|h
      ·exact absurd h (hqns p hp)
      ·exact h
     | false =>
      have hfe0:look fe t=none:=by
       rw [look_slots]
       cases hc2:(fe.map (·.1)).elem t with
       | false=>rfl
       | true =>
        have:=List.all_eq_true.1 hok.2 t (by simpa using hc2);rw [this] at hc';cases hc'
      simp only [Bool.false_eq_true,if_false,look_app fe,hfe0,hla]
  ·intro t a hla;rw [look_app,look_frL] at hla
   cases hu:un.elem t with
   | true =>
    rw [hu] at hla;simp only [if_true] at hla;obtain ⟨_,h2,h3⟩:=hab hla;refine hf t a ?_ h3;have hfe0:look fe t=none:=by
     rw [look_slots]
     cases hc2:(fe.map (·.1)).elem t with
     | false=>rfl
     | true =>
      have:=List.all_eq_true.1 hun.2 t (by simpa using hc2);rw [hu] at this;cases this
    rw [look_app,hfe0,look_app,h2]
   | false =>
    rw [hu] at hla;simp only [Bool.false_eq_true,if_false] at hla
    cases hc:look (fe++(qs.map (·.2)++fr0)) t with
    | some b =>
     rw [hc] at hla;exact hf t a (by rw [hc];exact hla) fun q hqq hqt=>hav q hqq (by rw [hqt];exact hu)
    | none =>
     rw [hc] at hla;have:=(hab hla).1;rw [hu] at this;cases this
theorem mEnd {qs:Qs}{fr0 fe:Fr}{ns dn:List Nat}(pend:List Nat)(hb:backOk ops=true)(hm:mOk ops (qs.map fun q=>(q.1,q.2.1)) ns=true)(hp:pendOk ops (qs.map fun q=>(q.1,q.2.1)) dn pend=true)(hq:QP P n H ops (fe++(qs.map (·.2)++fr0)) qs pend)
  (h:Sim P f n k (fe++(qs.map (·.2)++fr0)) H x X K):SimM P f n ops k qs fr0 ns dn [] fe H x X K:=by
 refine mQ pend hb hm hq hp ?_;intro S is hl hhead hcl hdn hfe hes r hr w0 F0 Z0 w F Z tmps hsz hinv hf;have hm0:=hm;simp only [mOk,Bool.and_eq_true] at hm0
 cases hl with
 | nil hS =>
  refine .regionEnd (h r hr w0 F0 Z0 w F Z tmps hsz hinv fun t a hla=>hf t a hla fun q hqq _=>hS _ ?_);have:=List.all_eq_true.1 hm0.1.2 (q.1,q.2.1) (List.mem_map.2 ⟨q,hqq,rfl⟩);rcases Nat.lt_or_ge q.1 ops.size with h|h
  ·exact h
  ·simp [h] at this
 | @cons _ is i o' ho' hn he hl =>
  have hi:=hhead i is rfl;rw [List.filter_cons,hi,if_pos rfl] at hes;cases hes
theorem Jc {id:Nat}(qs:Qs)(ns:List Nat)(L:List (List Nat))(hmx:P.follows .mixedOrders=true)(hb:backOk ops=true)(hm:mOk ops (qs.map fun q=>(q.1,q.2.1)) ns=true)(hns:ns.all (fun i=>Nat.blt i ops.size)=true)(hL:extsE ops (bef [] ops.toList) ns ns.length []=L)
  (h:Each (fun es=>SimM P f n ops k qs fr ns [] es [] H x X K) L):Sim P f n (.code (.region id ops true)::k) fr H x X K:=by
 intro r hr w0 F0 Z0 w F Z tmps hn hi hf;refine .regionDraw fun t=>?_
 have hlin:=lin_schedule hmx ops hb t;have hcl:Closed ops []:=fun i hi=>by cases hi
 have hmem:=lin_extsE hb (ns:=ns) (fun i hi=>by have:=List.all_eq_true.1 hns i hi;simpa [Nat.blt_eq] using this) hlin hcl ns.length [] (fun j _=>by simp) (List.length_filter_le _ _);rw [hL] at hmem;refine h.mem _ hmem [] _ hlin hcl (fun i hi=>by cases hi) (fun _ _ _=>rfl) rfl r hr w0 F0 Z0 _ F Z tmps hn (hi.quiet (Step.drew w _) (fun _ x=>x) (fun _ x=>.inl x)) fun t a hla hav=>?_
 refine AV.st a (w:=w) (w':={ w with drawn:=w.drawn+1 }) (fun _ x=>x) (fun _ _=>rfl) (hf t a ?_);rw [List.nil_append,look_app] at hla
 cases hc:look (qs.map (·.2)) t with
 | none=>rw [hc] at hla;exact hla
 | some b =>
  obtain ⟨q,hq1,hq2⟩:=List.mem_map.1 (look_mem hc);exact absurd (hav q hq1 (by rw [hq2])) (by simp)
end
end S
namespace S
open Go.RowKit
def bytesL (s:ByteArray):List Int:=s.data.toList.map fun b=>(b.toNat:Int)
def strL (xs:List Int):ByteArray:=⟨(xs.map fun n=>UInt8.ofNat n.toNat).toArray⟩
section
variable {P:Program}{f:FuncId}{n:Nat}{ops:Array Oper}{l:List Oper}{k:List Item}{fr:Fr}{H:List Res}{ρ R:Type}{x:Option ρ}{X:ρ→Option R}{K:R→AV→List Res→Prop}{ty t t' e u:TypeId}{d:Nat}{pos:String}{aft:Array Edge}
def IsPtr (a:AV):Prop:=∀ Z w v,a.p Z w v→∃ ad,v = .pointer (some ad)
theorem ptLit {a:Addr}:IsPtr (.lit (.pointer (some a))):=fun _ _ _ e=>⟨a,e⟩
theorem ptF {aS:List AV}:IsPtr (.fptr aS):=fun _ _ _ ⟨a,e,_⟩=>⟨a,e⟩
theorem ptE {v:Value}{m:Nat}:IsPtr (.ep v m):=fun _ _ _ ⟨a,_,_,_,e⟩=>⟨_,e⟩
theorem dNc {y:Operand}{a:AV}(hp:IsPtr a)(hy:arg fr y=some a):D P n H (.nilCheck y) ty fr a :=
 .of fun o ho hty w Z F ρ _ hf=>by
  have h:=hf (by simp [Op.operands]) hy;obtain ⟨ad,e⟩:=hp _ _ _ h;exact ⟨ρ y,by simp [execOp,ho,e,Sem.run_pure],h⟩
def IA (P:Program)(t:TypeId)(kd:IntKind)(i:Int)(off:Nat):Prop:=∀ a w,(Instr.indexAt t (.pointer (some a)) (.int kd i)).run P w = .ok (.pointer (some (a.add off))) w
theorem yj {y z:Operand}{kd:IntKind}{i:Int}{b o off:Nat}(hf':IA P t kd i off)(hy:arg fr y=some (.lit (.pointer (some ⟨b,o,none⟩))))(hz:arg fr z=some (Ai kd i)):D P n H (.indexAddr t y z) ty fr (.lit (.pointer (some ⟨b,o+off,none⟩))) :=
 .of fun q ho hty w Z F ρ _ hf=>by
  have e1:ρ y=_:=hf (by simp [Op.operands]) hy;have e2:ρ z=_:=hf (by simp [Op.operands]) hz;exact ⟨.pointer (some ⟨b,o+off,none⟩),by simp [execOp,ho,e1,e2,hf' _ w,Sem.run_bind,Addr.add_lit],rfl⟩
theorem dMin {y z:Operand}{ts:Array TypeId}{kd:IntKind}{a b:Int}(hy:arg fr y=some (Ai kd a))(hz:arg fr z=some (Ai kd b)):D P n H (.call ⟨.builtin .min,#[y,z],ts⟩) ty fr (Ai kd (if b<a then b else a)) :=
 .of fun o ho hty w Z F ρ _ hf=>by
  have h1:ρ y=_:=hf (by simp [Op.operands,Call.operands]) hy;have h2:ρ z=_:=hf (by simp [Op.operands,Call.operands]) hz;exact ⟨.int kd (if b<a then b else a),by simp [execOp,ho,h1,h2,resolve,invoke,builtin,Builtin.min_,Builtin.min2,Sem.run_bind,Sem.run_pure],rfl⟩
theorem jn {y z:Operand}{ts:Array TypeId}{kd:IntKind}{a b:Int}(hy:arg fr y=some (Ai kd a))(hz:arg fr z=some (Ai kd b)):D P n H (.call ⟨.builtin .max,#[y,z],ts⟩) ty fr (Ai kd (if a<b then b else a)) :=
 .of fun o ho hty w Z F ρ _ hf=>by
  have h1:ρ y=_:=hf (by simp [Op.operands,Call.operands]) hy;have h2:ρ z=_:=hf (by simp [Op.operands,Call.operands]) hz;exact ⟨.int kd (if a<b then b else a),by simp [execOp,ho,h1,h2,resolve,invoke,builtin,Builtin.max_,Builtin.max2,Sem.run_bind,Sem.run_pure],rfl⟩
theorem dCBS {y:Operand}{xs:List Int}(ht:P.underlying t=some (.slice e))(he:P.underlying e=some (.int .u8))(ht':P.underlying t'=some .string)(hy:arg fr y=some (.fsl (cI .u8) xs)):D P n H (.convert t t' y) ty fr (.lit (.string (strL xs))) :=
 .of fun o ho hty w Z F ρ _ hf=>by
  obtain ⟨A,m,e1,hm,hel⟩:=hf (by simp [Op.operands]) hy
  cases A with
  | none =>
   have:xs=[]:=by
    cases xs with
    | nil=>rfl
    | cons a xs=>obtain ⟨_,h,_⟩:=hel 0 a rfl;cases h
   subst this;refine ⟨.string (strL []),?_,rfl⟩;have:=run_convert_bytes_nil (P:=P) w t e ht he 0 m t' ht';simp only [execOp,ho,e1,List.length_nil,this,Sem.run_bind,Result.andThen_ok,Sem.run_pure];rfl
  | some a =>
   obtain ⟨b,off,sp⟩:=a;have hl:(loadCells ⟨b,off,sp⟩ xs.length).run P w = .ok (xs.map (Value.int .u8)).toArray w:=by
    have:=run_loadCells_list (P:=P) w ⟨b,off,sp⟩ (xs.map (Value.int .u8)) (fun j v hj=>by
     rw [List.getElem?_map] at hj
     cases hx:xs[j]? with
     | none=>rw [hx] at hj;cases hj
     | some q =>
      rw [hx] at hj;simp at hj;subst hj;obtain ⟨a',ha',_,vs,h1,h2⟩:=hel j q hx;cases ha'
      cases h1 with
      | cons h1 h3 =>
       cases h3;have:=h2 0 _ rfl;simp only [cI,Nat.mul_one] at this;rw [show (⟨b,off,sp⟩:Addr).add j=((⟨b,off,sp⟩:Addr).add j).add 0 by simp [Addr.add],this];exact congrArg some h1)
    simpa using this
   refine ⟨.string (strL xs),?_,rfl⟩;have hr:=run_convert_bytes_string (P:=P) w t t' e (some ⟨b,off,sp⟩) xs.length m ht he ht';have hb:=run_bytesToString (P:=P) w ⟨b,off,sp⟩ xs.length m xs hl;have hs:xs.foldl (fun r n=>r.push (UInt8.ofNat n.toNat)) ByteArray.empty=strL xs:=by
    rw [foldl_push_bytes];simp [strL,ByteArray.empty,ByteArray.emptyWithCapacity];rfl
   simp only [execOp,ho,e1,hr,hb,hs,Sem.run_bind,Result.andThen_ok,Sem.run_pure]
def AV.ifc (t:TypeId)(a:AV):AV:=⟨fun Z w v=>∃ u,v = .iface t u∧a.p Z w u,fun hz hk ⟨u,e,h⟩=>⟨u,e,a.st hz hk h⟩⟩
theorem oIfc {t:TypeId}{a:AV}:(AV.ifc t a).One:=fun _ _ _ ⟨_,e,_⟩=>by rw [e];rfl
def NoIface (P:Program)(t:TypeId):Prop:=∃ u,P.underlying t=some u∧∀ ms,u≠.interface ms
theorem tk {y:Operand}{a:AV}(ht:NoIface P t)(hy:arg fr y=some a):D P n H (.makeInterface t y) ty fr (.ifc t a) :=
 .of fun o ho hty w Z F ρ _ hf=>by
  obtain ⟨u,h1,h2⟩:=ht;have hr:(Instr.makeInterface t (ρ y)).run P w = .ok (.iface t (ρ y)) w:=by
   simp only [Instr.makeInterface,Sem.run_bind,run_underlying h1,Result.andThen_ok];cases u <;> first | rfl | exact absurd rfl (h2 _)
  exact ⟨.iface t (ρ y),by simp [execOp,ho,hr,Sem.run_bind],_,rfl,hf (by simp [Op.operands]) hy⟩
theorem sCut {T:Type}{c:Co T}{y b:Operand}{kb:IntKind}{m:Int}{v:Value}{xs:List T}{j:Nat}(ht:P.underlying t=some (.slice e))(hsz:SizeIs P e c.sz)(hy:arg fr y=some (.sv v))(hj:H[j]?=some (.own e c v xs))(hb:arg fr b=some (Ai kb m))(h1:0≤m)(h2:m≤xs.length)(hdn:Nat.blt d n=true)
  (h:∀ v',SimL P f n ops l k ((d,.sv v')::fr) (H.set j (.own e c v' (xs.take m.toNat))) x X K):SimL P f n ops (⟨some d,.slice t y none (some b) none,ty,pos,aft,none⟩::l) k fr H x X K:=by
 refine ph (I:=Value) (fun o ho hty w0 F0 Z0 w F Z ρ hinv hf=>?_) hdn h;obtain ⟨e1,_⟩:=hf (by simp [Op.operands]) hy;have e3:ρ b=_:=hf (by simp [Op.operands]) hb;obtain ⟨F1,hown,_⟩:=hinv.res.at hj;obtain ⟨A,q,hv⟩:=own_sv hown;have hq:xs.length≤q:=by
  obtain ⟨A',m',e',hm',_⟩:=own_fsl hown;rw [hv] at e';cases e';exact hm'
 have hr:(Instr.sliceAt t v none (some (.int kb m)) none).run P w = .ok (.slice A m.toNat q) w:=by
  have g1:m≤(q:Int):=by omega
  rw [hv];simp [Instr.sliceAt,Instr.slice,Instr.sliceBounds,Instr.sliceBound,run_underlying ht,hsz _,Sem.run_bind,asIntOf,g1,h1];intro _;cases A <;> simp [Addr.add]
 have hl:(xs.take m.toNat).length=m.toNat:=by rw [List.length_take];omega
 obtain ⟨F',hi',hk⟩:=hinv.turn (w':=w) (r':=.own e c (.slice A m.toNat q) (xs.take m.toNat)) hj fun G1 hown' _=>by
  refine ⟨G1,Step.refl _ _,?_,fun _ x=>.inl x⟩;obtain ⟨cs,⟨hl1,hr⟩,hbk,hrows⟩ | ⟨rfl,B,hB⟩:=hown'
  ·rcases hr with ⟨hv',hn⟩|⟨g,cap,cur,hv',hg,hrow,hcap,hmx,hcs,htk⟩
   ·have hx:xs=[]:=List.eq_nil_of_length_eq_zero hn;subst hx;have:=hv'.symm.trans hv;simp at this;obtain ⟨rfl,rfl⟩:=this;exact .inr ⟨by simp,none,by simp at h2;congr 1;omega⟩
   ·have:=hv'.symm.trans hv;simp at this;obtain ⟨rfl,rfl⟩:=this;refine .inl ⟨cs.take (m.toNat*c.sz),⟨?_,.inr ⟨g,_,cur,by rw [hl],hg,hrow,by rw [hl];omega,hmx,hcs,?_⟩⟩,fun b hb=>hbk b (by rw [hv'];simpa [Value.ownBlock] using hb),?_⟩
    ·rw [hl,List.length_take,hl1];have:m.toNat*c.sz≤xs.length*c.sz:=Nat.mul_le_mul_right _ (by omega);omega
    ·rw [hl,← htk,List.take_take];have:m.toNat*c.sz≤xs.length*c.sz:=Nat.mul_le_mul_right _ (by omega);rw [Nat.min_eq_left this]
    ·intro i z hz;rw [List.getElem?_take] at hz
     split at hz
     ·rename_i hlt
      obtain ⟨vs,g1,g2⟩:=hrows i z hz;refine ⟨vs,g1,fun q2 z2 hz2=>?_⟩;have hq2:q2<c.sz:=by
       have:vs.length=c.sz:=by rw [← g1.length,c.len]
       rcases Nat.lt_or_ge q2 vs.length with h|h
       ·omega
       ·simp [h] at hz2
      have:i*c.sz+c.sz≤m.toNat*c.sz:=by rw [← Nat.succ_mul];exact Nat.mul_le_mul_right _ hlt
      rw [List.getElem?_take,if_pos (by omega)];exact g2 q2 z2 hz2
     ·cases hz
  ·have:=hB.symm.trans hv;simp at this;obtain ⟨rfl,rfl⟩:=this;exact .inr ⟨by simp,B,by simp at h2;congr 1;omega⟩
 exact ⟨_,w,.slice A m.toNat q,F',Z,by simp only [execOp,ho,e1,e3,Option.map_none,Option.map_some,hr,Sem.run_bind,Result.andThen_ok,Sem.run_pure],hi',fun _ x=>x,hk,rfl,_,_,_,rfl⟩
def restR (H:List Res):List Nat→List Res
 | []=>H
 | j::js=>restR (H.eraseIdx j) js
theorem HAll.part {Z:Nat→Prop}{w:World}:∀ (js:List Nat) {H:List Res} {F:Nat→Prop},HAll H Z w F→∃ F1 F2:Nat→Prop,HAll (S.pickR H js) Z w F1∧HAll (restR H js) Z w F2∧(∀ b,F1 b→F b∧¬ F2 b)∧(∀ b,F2 b→F b):=by
 intro js
 induction js with
 | nil=>intro H F h;exact ⟨fun _=>False,F,trivial,h,fun _ x=>x.elim,fun _ x=>x⟩
 | cons j js ih =>
  intro H F h;unfold S.pickR restR
  cases hj:H[j]? with
  | none =>
   obtain ⟨F1,F2,_,h2,_,d2⟩:=ih (h.erase j);exact ⟨fun _=>False,F2,trivial,h2,fun _ x=>x.elim,d2⟩
  | some r =>
   obtain ⟨G1,G2,g1,g2,e1,e2⟩:=h.take hj;obtain ⟨F1,F2,h1,h2,d1,d2⟩:=ih g2;refine ⟨fun b=>G1 b∨F1 b,F2,⟨G1,F1,g1,h1,fun b hb=>⟨.inl hb,fun x=>(e1 b hb).2 (d1 b x).1⟩,fun b hb=>.inr hb⟩,h2,fun b hb=>?_,fun b hb=>e2 b (d2 b hb)⟩;rcases hb with hb|hb
   ·exact ⟨(e1 b hb).1,fun x=>(e1 b hb).2 (d2 b x)⟩
   ·exact ⟨e2 b (d1 b hb).1,(d1 b hb).2⟩
def Hands (P:Program)(g:FuncId)(avs:List AV)(Hin:List Res){Q I:Type}(y:Option Q)(A:Q→I→AV)(B:Q→I→List Res):Prop:=∀ r,y=some r→Spec P g avs Hin fun a H=>∃ ι,a=A r ι∧H=B r ι
theorem call_run' {o:Oper}{g:FuncId}{y:Operand}{args:Array Operand}{ts:Array TypeId}{w:World}{ρ:Operand→Value}(hy:ρ y = .func (.func g) #[] #[])(ho:o.op = .call ⟨.value y,args,ts⟩)(hg:Ent P g):(execOp ρ o).run P w = .ok (.enter g (args.toList.map ρ).toArray) w:=by
 have:=hg (args.map ρ) w;simp only [execOp,ho,resolve,hy,Deferred.ofValue,invoke,Sem.run_bind,Sem.run_pure,Result.andThen_ok,Array.append_empty,this,Array.empty_append]
 congr 2
 apply Array.ext';simp
def GMet (ops:Array Oper)(n:Nat)(fr:Fr)(gd:Option (Nat×Bool)):Prop:=∀ (Z:Nat→Prop) (w:World) (tmps:Array Value),tmps.size=n→FrOk fr Z w tmps→∀ o:Oper,o.guard=gd→Region.wanted o (yielded ops tmps)=true
theorem gmN:GMet ops n fr none:=fun _ _ _ _ _ _ h=>wanted_none h
theorem gmS {j dj:Nat}{oj:Oper}{t b:Bool}(hj:ops[j]?=some oj)(hdj:oj.dst=some dj)(hl:look fr dj=some (Ab t))(ht:t=b)(hjn:Nat.blt dj n=true):GMet ops n fr (some (j,b)):=fun Z w tmps hn hf o ho=>by
 have hjn':dj<n:=by simpa [Nat.blt_eq] using hjn
 have hy:=yield_of hj hdj (by omega) (hf dj _ hl);simp [Region.wanted,ho,hy,ht]
theorem fg {gd:Option (Nat×Bool)}(hgd:GMet ops n fr gd){g:FuncId}{y:Operand}{args:Array Operand}{ts:Array TypeId}{avs:List AV}{Hin:List Res}{Q I:Type}{z:Option Q}{A:Q→I→AV}{B:Q→I→List Res}{r:Q}(js:List Nat)(hg:Ent P g)(hy:arg fr y=some (.lit (.func (.func g) #[] #[])))(hp:Hands P g avs Hin z A B)(hz:z=some r)(hpk:S.pickR H js=Hin)(ha:ArgsS fr args.toList avs)(hdn:Nat.blt d n=true)
  (h:∀ ι,SimL P f n ops l k ((d,A r ι)::fr) (B r ι++restR H js) x X K):SimL P f n ops (⟨some d,.call ⟨.value y,args,ts⟩,ty,pos,aft,gd⟩::l) k fr H x X K:=by
 intro is hs r' hr w0 F0 Z0 w F Z tmps hn hi hf
 cases is with
 | nil=>simp at hs
 | cons i is =>
  simp only [List.map_cons,List.cons.injEq] at hs;have hdn':d<n:=by simpa [Nat.blt_eq] using hdn
  have all:∀ {x:Operand} {a:AV},arg fr x=some a→a.p Z w ((⟨tmps,[]⟩:Act).eval x):=by
   intro x a hx
   cases x with
   | tmp t=>exact hf t a hx
   | const v=>simp [arg] at hx;subst hx;rfl
   | func g=>simp [arg] at hx;subst hx;rfl
   | global g=>simp [arg] at hx;subst hx;rfl
  have hargs:=argsS_ok (ρ:=(⟨tmps,[]⟩:Act).eval) ha fun {x a} _ hx=>all hx
  obtain ⟨F1,F2,h1,h2,d1,d2⟩:=hi.res.part js;have hin:Inv w w F1 Z F1 Z Hin:=⟨Base.refl _ _,fun _ x=>x,fun b hb=>⟨(hi.zin b hb).1,.inl hb⟩,fun b hb=>⟨(hi.fin b (d1 b hb).1).1,.inl hb,(hi.fin b (d1 b hb).1).2.2⟩,hpk ▸ h1⟩
  refine .enter hs.1 (hgd Z w tmps hn hf _ rfl) (call_run' (all hy) rfl hg) (hp r hz w F1 Z _ hargs hin) ?_;rintro e w'' ⟨v,rfl,F',Z',av,H',⟨ι,rfl,rfl⟩,hinv,hv⟩;refine ⟨v,rfl,?_⟩;have s:Step w w'' F1:=⟨hinv.base.os,hinv.base.tape,hinv.base.output,hinv.base.drawn,hinv.base.size,fun b hb hn=>hinv.base.keep b hb hn⟩
  have hk:Keep Z w w'':=hi.keepZ s fun b hb=>(d1 b hb).1
  have hzF:∀ b,Z' b→F2 b→False:=fun b hz hF=>by
   rcases (hinv.zin b hz).2 with y|y|y
   ·exact (hi.fin b (d2 b hF)).2.2 y
   ·exact (d1 b y).2 hF
   ·have:=(hi.fin b (d2 b hF)).1;omega
  refine h ι is hs.2 r' hr w0 F0 Z0 w'' (fun b=>F' b∨F2 b) Z' _ (by simpa [putT] using hn) ?_ ((hf.st hinv.z0 hk).put (by omega) hv);refine hi.step s (fun b hb=>(d1 b hb).1) hinv.z0 (fun b hb=>?_) (fun b hb=>?_) (hinv.res.append (h2.st hinv.z0 fun b hb=>s.keep b (hb.elim (fun x=>(hi.zin b x).1) (fun x=>(hi.fin b (d2 b x)).1)) fun hF=>?_) fun b hb hF=>?_)
  ·have:=hinv.zin b hb;rcases this.2 with y|y|y
   ·exact .inl y
   ·exact .inr (.inl (d1 b y).1)
   ·exact .inr (.inr ⟨y,this.1⟩)
  ·rcases hb with hb|hb
   ·have:=hinv.fin b hb;exact ⟨this.2.1.elim (fun z=>.inl (d1 b z).1) fun z=>.inr ⟨z,this.1⟩,this.2.2⟩
   ·exact ⟨.inl (d2 b hb),fun hz=>hzF b hz hb⟩
  ·rcases hb with x|x
   ·exact (hi.fin b (d1 b hF).1).2.2 x
   ·exact (d1 b hF).2 x
  ·have:=hinv.fin b hb;rcases this.2.1 with y|y
   ·exact (d1 b y).2 hF
   ·have:=(hi.fin b (d2 b hF)).1;omega
theorem m8 {g:FuncId}{y:Operand}{args:Array Operand}{ts:Array TypeId}{avs:List AV}{Hin:List Res}{Q I:Type}{z:Option Q}{A:Q→I→AV}{B:Q→I→List Res}{r:Q}(js:List Nat)(hg:Ent P g)(hy:arg fr y=some (.lit (.func (.func g) #[] #[])))(hp:Hands P g avs Hin z A B)(hz:z=some r)(hpk:S.pickR H js=Hin)(ha:ArgsS fr args.toList avs)(hdn:Nat.blt d n=true)
  (h:∀ ι,SimL P f n ops l k ((d,A r ι)::fr) (B r ι++restR H js) x X K):SimL P f n ops (⟨some d,.call ⟨.value y,args,ts⟩,ty,pos,aft,none⟩::l) k fr H x X K :=
 fg gmN js hg hy hp hz hpk ha hdn h
theorem obj_of {fn:Func}{c:Code}{avs:List AV}{Hin:List Res}{Q I:Type}{y:Option Q}{A:Q→I→AV}{B:Q→I→List Res}{m:Nat}(hf:P.funcs[f]?=some fn)(hb:fn.body=some c)(hm:fn.ntmps=m)(hn:avs.length≤m)
  (h:Sim P f m [.code c] (frOf 0 avs) Hin y some fun r a H=>∃ ι,a=A r ι∧H=B r ι):Hands P f avs Hin y A B:=by
 subst hm;exact spec_of hf hb hn h
theorem sPk {todo:List Item}{H':List Res}(js:List Nat)(hH:S.pickR H js=H')(h:Sim P f n todo fr H' x X K):Sim P f n todo fr H x X K:=by
 subst hH;exact fun r hr w0 F0 Z0 w F Z tmps hn hi hf=>h r hr w0 F0 Z0 w F Z tmps hn (hi.less (·.pickR js)) hf
end
end S
namespace S
open Go.RowKit Go.WideMaps Go.MapKept
structure MK (P:Program)(kt:TypeId){κ:Type}(ek:κ→Value):Prop where
 inj:∀ a b,ek a=ek b→a=b
 check:∀ (w:World) (em:Bool) (x:κ),(Instr.checkKey em 10000 kt (ek x)).run P w = .ok () w
 find:∀ (w:World) (x:κ) (es:List MapEntry),(∀ e ∈ es,∃ y,e.key=ek y) →
  ((Instr.findKey kt (ek x) es).run P w = .ok none w∧∀ e ∈ es,e.key≠ek x)∨∃ j e,(Instr.findKey kt (ek x) es).run P w = .ok (some (j,e.val)) w∧es[j]?=some e∧e.key=ek x
 stays:∀ (w:World) (x:κ),(Instr.keyThatStays (ek x) (ek x)).run P w = .ok (ek x) w
section
variable {κ ν:Type}[DecidableEq κ]
def mget (es:List (κ×ν))(k:κ):Option ν:=(es.find? fun p=>decide (p.1=k)).map (·.2)
def mgetD (z:ν)(es:List (κ×ν))(k:κ):ν:=(mget es k).getD z
def mhas (es:List (κ×ν))(k:κ):Bool:=(mget es k).isSome
def mput:List (κ×ν)→κ→ν→List (κ×ν)
 | [],k,v=>[(k,v)]
 | p::es,k,v=>if p.1=k then (k,v)::es else p::mput es k v
theorem mget_none {es:List (κ×ν)}{k:κ}(h:∀ p ∈ es,p.1≠k):mget es k=none:=by
 unfold mget;rw [List.find?_eq_none.2 (fun p hp=>by simpa using h p hp)];rfl
theorem mget_at {es:List (κ×ν)}{k:κ}(hn:es.Pairwise fun p q=>p.1≠q.1){j:Nat}{p:κ×ν}(hj:es[j]?=some p)(hp:p.1=k):mget es k=some p.2:=by
 unfold mget
 induction es generalizing j with
 | nil=>simp at hj
 | cons q es ih =>
  rw [List.find?_cons]
  cases j with
  | zero=>simp at hj;subst hj;simp [hp]
  | succ j =>
   have hq:q.1≠k:=fun e=>(List.pairwise_cons.1 hn).1 p (List.mem_of_getElem? (by simpa using hj)) (e.trans hp.symm)
   rw [decide_eq_false hq];exact ih (List.pairwise_cons.1 hn).2 (by simpa using hj)
theorem mput_new {es:List (κ×ν)}{k:κ}{v:ν}(h:∀ p ∈ es,p.1≠k):mput es k v=es++[(k,v)]:=by
 induction es with
 | nil=>rfl
 | cons p es ih=>rw [mput,if_neg (h p (.head _)),ih fun q hq=>h q (.tail _ hq)];rfl
theorem mput_at {es:List (κ×ν)}{k:κ}{v:ν}(hn:es.Pairwise fun p q=>p.1≠q.1){j:Nat}{p:κ×ν}(hj:es[j]?=some p)(hp:p.1=k):mput es k v=es.set j (k,v):=by
 induction es generalizing j with
 | nil=>simp at hj
 | cons q es ih =>
  cases j with
  | zero=>simp at hj;subst hj;rw [mput,if_pos hp];rfl
  | succ j =>
   have hq:q.1≠k:=fun e=>(List.pairwise_cons.1 hn).1 p (List.mem_of_getElem? (by simpa using hj)) (e.trans hp.symm)
   rw [mput,if_neg hq,ih (List.pairwise_cons.1 hn).2 (by simpa using hj)];rfl
end
def MapAt {κ ν:Type}(ek:κ→Value)(ev:ν→Value)(w:World)(b:Nat)(es:List (κ×ν)):Prop :=
 ∃ ms clock,w.heap[b]?=some (.map ms clock)∧Stamped ms clock∧ms.toList.map (fun e=>(e.key,e.val))=es.map fun p=>(ek p.1,ev p.2)
def Res.mp {κ ν:Type}(ek:κ→Value)(ev:ν→Value)(b:Nat)(es:List (κ×ν)):Res :=
 ⟨fun Z w F=>F b∧MapAt ek ev w b es,fun hz hk h=>by
  obtain ⟨hb,ms,clock,h1,h2⟩:=h;exact ⟨hb,ms,clock,(hk b (.inr hb)).trans h1,h2⟩⟩
section
variable {P:Program}{f:FuncId}{n:Nat}{ops:Array Oper}{l:List Oper}{k:List Item}{fr:Fr}{H:List Res}{ρ R:Type}{x:Option ρ}{X:ρ→Option R}{K:R→AV→List Res→Prop}{ty t kt et:TypeId}{d:Nat}{pos:String}{aft:Array Edge}
variable {κ ν:Type}[DecidableEq κ]{ek:κ→Value}{ev:ν→Value}
theorem pairs_get {ms:Array MapEntry}{es:List (κ×ν)}(h:ms.toList.map (fun e=>(e.key,e.val))=es.map fun p=>(ek p.1,ev p.2)){j:Nat}{e:MapEntry}(hj:ms.toList[j]?=some e):∃ p,es[j]?=some p∧e.key=ek p.1∧e.val=ev p.2:=by
 have:=congrArg (·[j]?) h;simp only [List.getElem?_map,hj,Option.map_some] at this
 cases hp:es[j]? with
 | none=>rw [hp] at this;cases this
 | some p =>
  rw [hp] at this;simp only [Option.map_some,Option.some.injEq,Prod.mk.injEq] at this;exact ⟨p,rfl,this.1,this.2⟩
theorem pairs_mem {ms:Array MapEntry}{es:List (κ×ν)}(h:ms.toList.map (fun e=>(e.key,e.val))=es.map fun p=>(ek p.1,ev p.2)){p:κ×ν}(hp:p ∈ es):∃ e ∈ ms.toList,e.key=ek p.1∧e.val=ev p.2:=by
 have:(ek p.1,ev p.2) ∈ es.map fun p=>(ek p.1,ev p.2):=List.mem_map.2 ⟨p,hp,rfl⟩
 rw [← h] at this;obtain ⟨e,he,hq⟩:=List.mem_map.1 this;simp only [Prod.mk.injEq] at hq;exact ⟨e,he,hq.1,hq.2⟩
theorem pairs_ent {ms:Array MapEntry}{es:List (κ×ν)}(h:ms.toList.map (fun e=>(e.key,e.val))=es.map fun p=>(ek p.1,ev p.2)){e:MapEntry}(he:e ∈ ms.toList):∃ p ∈ es,e.key=ek p.1∧e.val=ev p.2:=by
 obtain ⟨j,hj⟩:=List.getElem?_of_mem he;obtain ⟨p,h1,h2,h3⟩:=pairs_get h hj;exact ⟨p,List.mem_of_getElem? h1,h2,h3⟩
theorem pairs_apart (M:MK P kt ek){ms:Array MapEntry}{clock:Nat}{es:List (κ×ν)}(hs:Stamped ms clock)(h:ms.toList.map (fun e=>(e.key,e.val))=es.map fun p=>(ek p.1,ev p.2)):es.Pairwise fun p q=>p.1≠q.1:=by
 have h1:=((stamped_iff ms clock).1 hs).2.2;have h2:(ms.toList.map (fun e=>(e.key,e.val))).Pairwise fun a b=>a.1≠b.1:=List.pairwise_map.2 h1
 rw [h,List.pairwise_map] at h2;exact h2.imp fun hne e=>hne (congrArg ek e)
theorem find_is (M:MK P kt ek){ms:Array MapEntry}{clock:Nat}{es:List (κ×ν)}(hs:Stamped ms clock)(h:ms.toList.map (fun e=>(e.key,e.val))=es.map fun p=>(ek p.1,ev p.2))(y:κ)(w:World) :
  ((Instr.findKey kt (ek y) ms.toList).run P w = .ok none w∧(∀ p ∈ es,p.1≠y)∧∀ e ∈ ms.toList,e.key≠ek y) ∨
  ∃ j e p,(Instr.findKey kt (ek y) ms.toList).run P w = .ok (some (j,e.val)) w∧ms.toList[j]?=some e∧es[j]?=some p∧p.1=y∧e.key=ek y∧e.val=ev p.2:=by
 rcases M.find w y ms.toList (fun e he=>by
  obtain ⟨p,_,e1,_⟩:=pairs_ent h he;exact ⟨p.1,e1⟩) with ⟨h1,h2⟩|⟨j,e,h1,h2,h3⟩
 ·refine .inl ⟨h1,fun p hp e=>?_,h2⟩;obtain ⟨q,hq,e1,_⟩:=pairs_mem h hp;exact h2 q hq (e1.trans (congrArg ek e))
 ·obtain ⟨p,g1,g2,g3⟩:=pairs_get h h2;exact .inr ⟨j,e,p,h1,h2,g1,M.inj _ _ (g2.symm.trans h3),h3,g3⟩
theorem Vi (hdn:Nat.blt d n=true)(h:∀ b,SimL P f n ops l k ((d,.lit (.map (some b)))::fr) (.mp ek ev b []::H) x X K):SimL P f n ops (⟨some d,.makeMap t none,ty,pos,aft,none⟩::l) k fr H x X K :=
 ph (I:=Nat) (fun o ho hty w0 F0 Z0 w F Z ρ hi hf=>⟨.map (some w.heap.size),w.alloc (.map #[] 0),w.heap.size,_,Z,by simp [execOp,ho,run_makeMap,Sem.run_bind],hi.push _ (.mp ek ev w.heap.size []) ⟨rfl,#[],0,heap_alloc_new w _,stamped_empty 0,rfl⟩,fun _ x=>x,(Step.alloc w _ _).keep' hi,rfl⟩) hdn h
theorem look_run (M:MK P kt ek)(ht:P.underlying t=some (.map kt et)){z:ν}(hz:∀ w,(zeroValue et).run P w = .ok (ev z) w){b:Nat}{es:List (κ×ν)}{w:World}(h:MapAt ek ev w b es)(y:κ)(c:Bool) :
  (Instr.lookup t (.map (some b)) (ek y) c).run P w = .ok (if c then .tuple #[ev (mgetD z es y),.bool (mhas es y)] else ev (mgetD z es y)) w:=by
 obtain ⟨ms,clock,hh,hs,hp⟩:=h;have hn:=pairs_apart M hs hp;simp only [Instr.lookup,Sem.run_bind,run_underlying ht,Result.andThen_ok,Go.MapKept.run_getObj_map hh,Sem.run_pure,M.check w _ y];rcases find_is M hs hp y w with ⟨h1,h2,_⟩|⟨j,e,p,h1,h2,h3,h4,_,h5⟩
 ·simp only [h1,hz,Result.andThen_ok,Sem.run_bind,Sem.run_pure,mgetD,mhas,mget_none h2];cases c <;> rfl
 ·simp only [h1,Result.andThen_ok,Sem.run_pure,mgetD,mhas,mget_at hn h3 h4,h5];cases c <;> rfl
theorem kn {y m:Operand}{b j:Nat}{es:List (κ×ν)}{a:κ}{z:ν}(M:MK P kt ek)(ht:P.underlying t=some (.map kt et))(hz:∀ w,(zeroValue et).run P w = .ok (ev z) w)(hm:arg fr m=some (.lit (.map (some b))))(hj:H[j]?=some (.mp ek ev b es)){av:AV}(hy:arg fr y=some av)(ha:∀ Z w v,av.p Z w v→v=ek a) :
  D P n H (.lookup t m y false) ty fr (.lit (ev (mgetD z es a))) :=
 .of fun q ho hty w Z F ρ hH hf=>by
  have e1:ρ m=_:=hf (by simp [Op.operands]) hm;have e2:ρ y=_:=ha _ _ _ (hf (by simp [Op.operands]) hy);obtain ⟨F1,⟨hb,hma⟩,_⟩:=hH.at hj;exact ⟨_,(by simp only [execOp,ho,e1,e2,look_run M ht hz hma,Sem.run_bind,Result.andThen_ok,Sem.run_pure];rfl),rfl⟩
theorem Step.setObj (w:World)(b:Nat)(o:Obj)(F1:Nat→Prop)(h:F1 b):Step w { w with heap:=w.heap.setIfInBounds b o } F1 :=
 ⟨rfl,rfl,rfl,Nat.le_refl _,by simp,fun c _ hf=>by
  have:b≠c:=fun e=>hf (e ▸ h)
  simp [this]⟩
theorem put_run (M:MK P kt ek)(ht:P.underlying t=some (.map kt et)){b:Nat}{es:List (κ×ν)}{w:World}(h:MapAt ek ev w b es)(y:κ)(v:ν) :
  ∃ o,(Instr.mapUpdate t (.map (some b)) (ek y) (ev v)).run P w = .ok () { w with heap:=w.heap.setIfInBounds b o }∧MapAt ek ev { w with heap:=w.heap.setIfInBounds b o } b (mput es y v):=by
 obtain ⟨ms,clock,hh,hs,hp⟩:=h;have hn:=pairs_apart M hs hp;rcases find_is M hs hp y w with ⟨h1,h2,h3⟩|⟨j,e,p,h1,h2,h3,h4,h6,h5⟩
 ·refine ⟨.map (ms.push { key:=ek y,val:=ev v,born:=clock }) (clock+1),?_,_,_,(heap_set hh).1,stamped_push hs h3,?_⟩
  ·simp only [Instr.mapUpdate,Sem.run_bind,run_underlying ht,Go.MapKept.run_getObj_map hh,M.check w _ y,h1,Go.MapKept.run_setObj_map _ hh,Result.andThen_ok]
  ·rw [mput_new h2];simp [hp]
 ·have hj:ms[j]?=some e:=by simpa using h2
  refine ⟨.map (ms.modify j fun e=>{ e with key:=ek y,val:=ev v }) clock,?_,_,_,(heap_set hh).1,stamped_modify hs _ _ (fun _ _=>rfl) (fun e' _ he'=>by rw [hj] at he';cases he';exact h6.symm),?_⟩
  ·simp only [Instr.mapUpdate,Sem.run_bind,run_underlying ht,Go.MapKept.run_getObj_map hh,M.check w _ y,h1,hj,Option.map_some,Option.getD_some,h6,M.stays w y,Go.MapKept.run_setObj_map _ hh,Result.andThen_ok]
  ·rw [mput_at hn h3 h4];apply List.ext_getElem?;intro i;simp only [Array.toList_modify,List.getElem?_map,List.getElem?_modify,List.getElem?_set];have hi:=congrArg (·[i]?) hp;simp only [List.getElem?_map] at hi
   by_cases hij:j=i
   ·subst hij;have hl:j<es.length:=(List.getElem?_eq_some_iff.1 h3).1;simp [h2,hl]
   ·simp only [hij,if_false];simpa using hi
theorem cm {y m u:Operand}{b j:Nat}{es:List (κ×ν)}{a:κ}{v:ν}(M:MK P kt ek)(ht:P.underlying t=some (.map kt et))(hm:arg fr m=some (.lit (.map (some b))))(hj:H[j]?=some (.mp ek ev b es)){av:AV}(hy:arg fr y=some av)(ha:∀ Z w v,av.p Z w v→v=ek a)(hu:arg fr u=some (.lit (ev v)))
  (h:SimL P f n ops l k fr (H.set j (.mp ek ev b (mput es a v))) x X K):SimL P f n ops (⟨none,.mapUpdate t m y u,ty,pos,aft,none⟩::l) k fr H x X K:=by
 refine kk (fun o ho w0 F0 Z0 w F Z ρ hi hf=>?_) h;have e1:ρ m=_:=hf (by simp [Op.operands]) hm;have e2:ρ y=_:=ha _ _ _ (hf (by simp [Op.operands]) hy);have e3:ρ u=_:=hf (by simp [Op.operands]) hu;obtain ⟨F1,⟨hb,hma⟩,_⟩:=hi.res.at hj;obtain ⟨ob,h1,h2⟩:=put_run M ht hma a v;obtain ⟨F',hi',hk⟩:=hi.turn (w':={ w with heap:=w.heap.setIfInBounds b ob }) (r':=.mp ek ev b (mput es a v)) hj fun F1 h3 hz1=>⟨F1,Step.setObj w b ob F1 h3.1,⟨h3.1,h2⟩,fun _ x=>.inl x⟩
 exact ⟨_,F',Z,by simp only [execOp,ho,e1,e2,e3,h1,Sem.run_bind,Result.andThen_ok,Sem.run_pure],hi',fun _ x=>x,hk⟩
end
theorem mkStr {P:Program}{kt:TypeId}(hk:P.underlying kt=some .string):MK P kt (fun s:ByteArray=>Value.string s) :=
 ⟨fun a b h=>(by injection h),fun w em x=>run_checkKey (k:=Value.string x) hk trivial em _,fun w x es h=>by
  rcases findNow_spec (d:=.string) (k:=.string x) trivial es 0 (fun e he=>by obtain ⟨y,hy⟩:=h e he;rw [hy];trivial) with ⟨h1,h2⟩|⟨j,e,h1,h2,h3⟩
  ·exact .inl ⟨run_findKey hk h1,h2⟩
  ·exact .inr ⟨j,e,(by rw [Nat.zero_add] at h1;exact run_findKey hk h1),h2,h3⟩,fun w x=>run_keyThatStays (d:=.string) (k:=Value.string x) trivial⟩
theorem allP_lits {Z:Nat→Prop}{w:World}{us:List Value}:∀ {vs:List Value},AllP Z w (us.map AV.lit) vs→vs=us:=by
 induction us with
 | nil=>intro vs h;cases h;rfl
 | cons u us ih =>
  intro vs h
  cases h with
  | cons h1 h2=>rw [ih h2,show _=u from h1]
theorem agg_lit {Z:Nat→Prop}{w:World}{v:Value}{us:List Value}(h:(AV.agg (us.map AV.lit)).p Z w v):v = .agg us.toArray:=by
 obtain ⟨vs,rfl,h⟩:=h;rw [allP_lits h]
def Cks (P:Program)(w:World)(em:Bool)(m:Nat)(cs:Array Value):List Field→Prop
 | []=>True
 | f::fs=>(f.name ≠ "_" → ∃ a,(part f.type cs f.offset).run P w = .ok a w∧(Instr.checkKey em m f.type a).run P w = .ok () w)∧Cks P w em m cs fs
theorem run_check_st {P:Program}{w:World}{em:Bool}{m:Nat}{t:TypeId}{fs:Array Field}{cs:Array Value}(hu:P.underlying t=some (.struct fs))(h:Cks P w em m cs fs.toList):(Instr.checkKey em (m+1) t (.agg cs)).run P w = .ok () w:=by
 rw [Instr.checkKey];simp only [Sem.run_bind,run_underlying hu,Result.andThen_ok];rw [← Array.forIn_toList];generalize fs.toList=L at h
 induction L with
 | nil=>simp
 | cons f L ih =>
  obtain ⟨h1,h2⟩:=h
  by_cases hn:f.name = "_"
  ·simp only [List.forIn_cons,Sem.run_bind,hn,ne_eq,not_true_eq_false,if_false,Result.andThen_ok,Sem.run_pure];exact ih h2
  ·obtain ⟨a,p1,p2⟩:=h1 hn;simp only [List.forIn_cons,Sem.run_bind,hn,ne_eq,not_false_eq_true,if_true,Result.andThen_ok,p1,p2,Sem.run_pure];exact ih h2
theorem asking {P:Program}{kt:TypeId}{κ:Type}[DecidableEq κ]{ek:κ→Value}(he:∀ w x y,(Op.equalIn 10000 kt (ek x) (ek y)).run P w = .ok (decide (x=y)) w)(hi:∀ a b,ek a=ek b→a=b)(w:World)(x:κ):∀ (es:List MapEntry) (i:Nat),(∀ e ∈ es,∃ y,e.key=ek y) →
  ((Instr.findAsking kt (ek x) es i).run P w = .ok none w∧∀ e ∈ es,e.key≠ek x)∨∃ j e,(Instr.findAsking kt (ek x) es i).run P w = .ok (some (i+j,e.val)) w∧es[j]?=some e∧e.key=ek x
 | [],i,_=>.inl ⟨by simp [Instr.findAsking],by simp⟩
 | e::es,i,hall=>by
  obtain ⟨y,hy⟩:=hall e (by simp);have hr:(Op.equal kt (ek x) e.key).run P w = .ok (decide (x=y)) w:=by rw [hy];exact he w x y
  by_cases hxy:x=y
  ·rw [decide_eq_true hxy] at hr;exact .inr ⟨0,e,by simp [Instr.findAsking,hr],rfl,by rw [hy,hxy]⟩
  ·rw [decide_eq_false hxy] at hr;rcases asking he hi w x es (i+1) (fun z hz=>hall z (by simp [hz])) with ⟨h1,h2⟩|⟨j,e',h1,h2,h3⟩
   ·refine .inl ⟨by simp [Instr.findAsking,hr,h1],fun z hz=>?_⟩;rcases List.mem_cons.1 hz with rfl|hz
    ·exact fun q=>hxy (hi _ _ (q.symm.trans hy))
    ·exact h2 z hz
   ·exact .inr ⟨j+1,e',by simp [Instr.findAsking,hr,h1,Nat.add_assoc,Nat.add_comm 1 j],by simpa using h2,h3⟩
theorem sameBits_lit:∀ {n:Nat} {vs:List Value},(∀ v ∈ vs,Instr.sameBits n v v=true)→Instr.sameBits (n+1) (.agg vs.toArray) (.agg vs.toArray)=true:=by
 intro n vs h;simp only [Instr.sameBits,beq_self_eq_true,Bool.true_and,List.all_eq_true];rintro ⟨a,b⟩ hab;have:∀ {us:List Value},(∀ v ∈ us,Instr.sameBits n v v=true)→(a,b) ∈ us.zip us→Instr.sameBits n a b=true:=by
  intro us
  induction us with
  | nil=>intro _ h;simp at h
  | cons u us ih =>
   intro hu hm;rw [List.zip_cons_cons] at hm;rcases List.mem_cons.1 hm with e|hm
   ·cases e;exact hu _ (List.mem_cons_self ..)
   ·exact ih (fun v hv=>hu v (by simp [hv])) hm
 exact this h (by simpa using hab)
theorem mkSt {P:Program}{kt:TypeId}{κ:Type}[DecidableEq κ]{lits:κ→List Value}(hw:(match P.underlying kt with | some (.array _ _) | some (.struct _)=>true | _=>false)=true)(hi:∀ a b,Value.agg (lits a).toArray = .agg (lits b).toArray→a=b)
  (hc:∀ (w:World) (em:Bool) (x:κ),(Instr.checkKey em 10000 kt (.agg (lits x).toArray)).run P w = .ok () w) (he:∀ w x y,(Op.equalIn 10000 kt (.agg (lits x).toArray) (.agg (lits y).toArray)).run P w = .ok (decide (x=y)) w)
  (hb:∀ x,∀ v ∈ lits x,Instr.sameBits 9999 v v=true):MK P kt (fun x=>Value.agg (lits x).toArray) :=
 ⟨hi,hc,fun w x es h=>by
  rw [run_findKey_eq w hw];rcases asking he hi w x es 0 h with h|⟨j,e,h1,h2⟩
  ·exact .inl h
  ·exact .inr ⟨j,e,by rw [Nat.zero_add] at h1;exact h1,h2⟩,fun w x=>by
  simp [Instr.keyThatStays,sameBits_lit (hb x)]⟩
end S
end Go.Proofs.YtcoineklodmbnaaGreat

